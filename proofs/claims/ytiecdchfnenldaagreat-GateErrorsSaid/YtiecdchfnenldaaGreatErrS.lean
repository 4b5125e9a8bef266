/- Contracts of the gate's state, and of what law 31 compares it with. -/
import Derived.Test.YtiecdchfnenldaaGreatSpecs
import Derived.Test.YtiecdchfnenldaaGreatKnown31
import Derived.Test.YtiecdchfnenldaaGreatDenG7
import Derived.Test.YtiecdchfnenldaaGreatAbsS
import Derived.Test.YtiecdchfnenldaaGreatDenArgs
set_option maxRecDepth 100000
set_option maxHeartbeats 4000000
set_option linter.unusedSimpArgs false
set_option linter.unusedVariables false
namespace Den
open Go Go.Proofs

/-- Methods by their types. -/
theorem methM : cfgA.meth 26 "Load" = some 52 ∧ mok Tryz.prog 26 "Load" = true ∧ cfgA.meth 26 "Store" = some 48 ∧ mok Tryz.prog 26 "Store" = true := ⟨by kernel_rfl, by kernel_rfl, by kernel_rfl, by kernel_rfl⟩

/-- gate.Look: the loop 0 -/
def lookB (km kn : Nat) (p t v : Int) : Nat → Int → Int → Nat → Nat → Mo → Option (AV × Mo)
  | 0, rf, e, kq, cn, O => none
  | m + 1, rf, e, kq, cn, O =>
    if e = 0 then
      if 0 < rf then
        if (cn : Int) ≤ t then
          match nnodeS [.ref 0 kn 0, .int .u64 rf] O with
          | some (.tup [.int .i64 nd, .int .i64 f], Oa) =>
            match nownerS [.ref 0 kn 0, .int .i64 nd] Oa with
            | some (.tup [.int .i64 ow, .int .i64 g], Ob) =>
              if f = 0 then
                if g = 0 then
                  match bufI Ob kq with
                  | some l =>
                    if l.length = cn then
                      match nnextS [.ref 0 kn 0, .int .i64 nd] (Ob.set kq (.buf 1 (ints (l ++ [ow])))) with
                      | some (.int .i64 w, Oc) =>
                        match loadS [.ref 0 km 0, .int .i64 w] Oc with
                        | some (.tup [.int .u64 rf2, .int .i64 e2], Od) => lookB km kn p t v m rf2 e2 kq (cn + 1) Od
                        | _ => none
                      | _ => none
                    else none
                  | _ => none
                else none
              else none
            | _ => none
          | _ => none
        else none
      else if (cn : Int) ≤ t then some (.tup [.agg [.int .i64 v, .bref 0 kq 0 cn cn], .int .i64 0], O) else none
    else none
theorem lookB_loop {S : Ms} (km kn : Nat) (p t v : Int) (h0 : 1 ≤ t) (h1 : t ≤ 64) : ∀ (n : Nat) (rf e : Int) (kq cn : Nat) (O : Mo) (env : Env) (M : Nat) (r : AV) (O' : Mo) (h : lookB km kn p t v n rf e kq cn O = some (r, O')) (hM : n < M) (e0 : env 0 = .iface 26 (.ref 0 km 0)) (e1 : env 3 = .ref (S.length + 1) 0 0) (e2 : env 4 = .ref (S.length + 1) 1 0) (e3 : env 6 = .ref 0 kn 0) (e4 : env 7 = .int .i64 e) (e5 : env 9 = .ref (S.length + 1) 2 0) (e6 : env 10 = .int .u64 rf),
    W33x0 cfgA (tabC [(84, dNodesS), (52, loadS), (85, nnodeS), (86, nownerS), (76, nnextS)]) 100000 (loopN (exec cfgA (tabC [(84, dNodesS), (52, loadS), (85, nnodeS), (86, nownerS), (76, nnextS)]) 100000 B33x0) [] M ⟨leOf 106 env, O, S ++ [[ABlk.arr [.int .i64 p, .int .i64 t], ABlk.arr [.int .i64 0, .nils], ABlk.arr [.int .i64 v, .bref 0 kq 0 cn cn]]]⟩) = some (r, O', S) := by
  intro n
  induction n with
  | zero =>
    intro rf e kq cn O env M r O' h hM e0 e1 e2 e3 e4 e5 e6
    obtain ⟨M, rfl⟩ : ∃ M', M = M' + 1 := ⟨M - 1, by omega⟩
    unfold lookB at h
    repeat' (split at h)
    all_goals first | (cases h; done) | (dsimp only at h; cases h; done) | (exfalso; omega) | skip
    all_goals
      try dsimp only at h
      try simp only [acc, accZ, errA] at *
      first
        | (simp (disch := first | decide | omega | assumption | exact isS_of (by assumption) | exact ixok_of (by assumption) (by omega) | exact slOk_of (by assumption) | exact bufOk_of (by assumption) (by omega) | fail) only [loop_unf, loopK_N, loopK_E, loopK_R, RAs, RBs, RCs, RDs, REs, RFs, RGs, RHs, RIs, RJs, RKs, RLs, RRt, Nat.reduceLT, Nat.reduceEqDiff, Nat.reduceAdd, Nat.reduceSub, RXa, RXb, RXc, methR, methM, RSl, *]
           refine noIh _ _ _ _ _ _ _ _ _ h (by omega) ?_ ?_ ?_ ?_ ?_ ?_ ?_
           all_goals simp (disch := first | decide | omega | assumption | exact isS_of (by assumption) | exact ixok_of (by assumption) (by omega) | exact slOk_of (by assumption) | exact bufOk_of (by assumption) (by omega) | fail) only [RAs, RBs, RCs, RDs, REs, RFs, RGs, RHs, RIs, RJs, RKs, RLs, RRt, Nat.reduceLT, Nat.reduceEqDiff, Nat.reduceAdd, Nat.reduceSub, RXa, RXb, RXc, methR, methM, RSl, *])
        | (simp only [Option.some.injEq, Prod.mk.injEq] at h
           obtain ⟨rfl, rfl⟩ := h
           simp (disch := first | decide | omega | assumption | exact isS_of (by assumption) | exact ixok_of (by assumption) (by omega) | exact slOk_of (by assumption) | exact bufOk_of (by assumption) (by omega) | fail) only [W33x0, loop_unf, loopK_N, loopK_E, loopK_R, RAs, RBs, RCs, RDs, REs, RFs, RGs, RHs, RIs, RJs, RKs, RLs, RRt, Nat.reduceLT, Nat.reduceEqDiff, Nat.reduceAdd, Nat.reduceSub, RXa, RXb, RXc, methR, methM, RSl, *])
  | succ n ih =>
    intro rf e kq cn O env M r O' h hM e0 e1 e2 e3 e4 e5 e6
    obtain ⟨M, rfl⟩ : ∃ M', M = M' + 1 := ⟨M - 1, by omega⟩
    unfold lookB at h
    repeat' (split at h)
    all_goals first | (cases h; done) | (dsimp only at h; cases h; done) | (exfalso; omega) | skip
    all_goals
      try dsimp only at h
      try simp only [acc, accZ, errA] at *
      first
        | (simp (disch := first | decide | omega | assumption | exact isS_of (by assumption) | exact ixok_of (by assumption) (by omega) | exact slOk_of (by assumption) | exact bufOk_of (by assumption) (by omega) | fail) only [loop_unf, loopK_N, loopK_E, loopK_R, RAs, RBs, RCs, RDs, REs, RFs, RGs, RHs, RIs, RJs, RKs, RLs, RRt, Nat.reduceLT, Nat.reduceEqDiff, Nat.reduceAdd, Nat.reduceSub, RXa, RXb, RXc, methR, methM, RSl, *]
           refine ih _ _ _ _ _ _ _ _ _ h (by omega) ?_ ?_ ?_ ?_ ?_ ?_ ?_
           all_goals simp (disch := first | decide | omega | assumption | exact isS_of (by assumption) | exact ixok_of (by assumption) (by omega) | exact slOk_of (by assumption) | exact bufOk_of (by assumption) (by omega) | fail) only [RAs, RBs, RCs, RDs, REs, RFs, RGs, RHs, RIs, RJs, RKs, RLs, RRt, Nat.reduceLT, Nat.reduceEqDiff, Nat.reduceAdd, Nat.reduceSub, RXa, RXb, RXc, methR, methM, RSl, *])
        | (simp only [Option.some.injEq, Prod.mk.injEq] at h
           obtain ⟨rfl, rfl⟩ := h
           simp (disch := first | decide | omega | assumption | exact isS_of (by assumption) | exact ixok_of (by assumption) (by omega) | exact slOk_of (by assumption) | exact bufOk_of (by assumption) (by omega) | fail) only [W33x0, loop_unf, loopK_N, loopK_E, loopK_R, RAs, RBs, RCs, RDs, REs, RFs, RGs, RHs, RIs, RJs, RKs, RLs, RRt, Nat.reduceLT, Nat.reduceEqDiff, Nat.reduceAdd, Nat.reduceSub, RXa, RXb, RXc, methR, methM, RSl, *])

/-- gate.Look: the loop 0 -/
def lookA (km kn : Nat) (p t v : Int) : Nat → Int → Int → Mo → Option (AV × Mo)
  | 0, rf, e, O => none
  | m + 1, rf, e, O =>
    if e = 0 then
      if 0 < rf then
        match nnodeS [.ref 0 kn 0, .int .u64 rf] O with
        | some (.tup [.int .i64 nd, .int .i64 f], Oa) =>
          match nownerS [.ref 0 kn 0, .int .i64 nd] Oa with
          | some (.tup [.int .i64 ow, .int .i64 g], Ob) =>
            if f = 0 then
              if g = 0 then
                match nnextS [.ref 0 kn 0, .int .i64 nd] (Ob ++ [.buf 1 (ints [ow])]) with
                | some (.int .i64 w, Oc) =>
                  match loadS [.ref 0 km 0, .int .i64 w] Oc with
                  | some (.tup [.int .u64 rf2, .int .i64 e2], Od) => lookB km kn p t v m rf2 e2 Ob.length 1 Od
                  | _ => none
                | _ => none
              else none
            else none
          | _ => none
        | _ => none
      else some (.tup [.agg [.int .i64 v, .nils], .int .i64 0], O)
    else none
theorem lookA_loop {S : Ms} (km kn : Nat) (p t v : Int) (h0 : 1 ≤ t) (h1 : t ≤ 64) : ∀ (n : Nat) (rf e : Int) (O : Mo) (env : Env) (M : Nat) (r : AV) (O' : Mo) (h : lookA km kn p t v n rf e O = some (r, O')) (hM : n < M) (e0 : env 0 = .iface 26 (.ref 0 km 0)) (e1 : env 3 = .ref (S.length + 1) 0 0) (e2 : env 4 = .ref (S.length + 1) 1 0) (e3 : env 6 = .ref 0 kn 0) (e4 : env 7 = .int .i64 e) (e5 : env 9 = .ref (S.length + 1) 2 0) (e6 : env 10 = .int .u64 rf),
    W33x0 cfgA (tabC [(84, dNodesS), (52, loadS), (85, nnodeS), (86, nownerS), (76, nnextS)]) 100000 (loopN (exec cfgA (tabC [(84, dNodesS), (52, loadS), (85, nnodeS), (86, nownerS), (76, nnextS)]) 100000 B33x0) [] M ⟨leOf 106 env, O, S ++ [[ABlk.arr [.int .i64 p, .int .i64 t], ABlk.arr [.int .i64 0, .nils], ABlk.arr [.int .i64 v, .nils]]]⟩) = some (r, O', S) := by
  intro n
  induction n with
  | zero =>
    intro rf e O env M r O' h hM e0 e1 e2 e3 e4 e5 e6
    obtain ⟨M, rfl⟩ : ∃ M', M = M' + 1 := ⟨M - 1, by omega⟩
    unfold lookA at h
    repeat' (split at h)
    all_goals first | (cases h; done) | (dsimp only at h; cases h; done) | (exfalso; omega) | skip
    all_goals
      try dsimp only at h
      try simp only [acc, accZ, errA] at *
      first
        | (simp (disch := first | decide | omega | assumption | exact isS_of (by assumption) | exact ixok_of (by assumption) (by omega) | exact slOk_of (by assumption) | exact bufOk_of (by assumption) (by omega) | fail) only [loop_unf, loopK_N, loopK_E, loopK_R, RAs, RBs, RCs, RDs, REs, RFs, RGs, RHs, RIs, RJs, RKs, RLs, RRt, Nat.reduceLT, Nat.reduceEqDiff, Nat.reduceAdd, Nat.reduceSub, RXa, RXb, RXc, methR, methM, RSl, *]
           refine noIh _ _ _ _ _ _ _ h (by omega) ?_ ?_ ?_ ?_ ?_ ?_ ?_
           all_goals simp (disch := first | decide | omega | assumption | exact isS_of (by assumption) | exact ixok_of (by assumption) (by omega) | exact slOk_of (by assumption) | exact bufOk_of (by assumption) (by omega) | fail) only [RAs, RBs, RCs, RDs, REs, RFs, RGs, RHs, RIs, RJs, RKs, RLs, RRt, Nat.reduceLT, Nat.reduceEqDiff, Nat.reduceAdd, Nat.reduceSub, RXa, RXb, RXc, methR, methM, RSl, *])
        | (simp (disch := first | decide | omega | assumption | exact isS_of (by assumption) | exact ixok_of (by assumption) (by omega) | exact slOk_of (by assumption) | exact bufOk_of (by assumption) (by omega) | fail) only [loop_unf, loopK_N, loopK_E, loopK_R, RAs, RBs, RCs, RDs, REs, RFs, RGs, RHs, RIs, RJs, RKs, RLs, RRt, Nat.reduceLT, Nat.reduceEqDiff, Nat.reduceAdd, Nat.reduceSub, RXa, RXb, RXc, methR, methM, RSl, *]
           refine lookB_loop _ _ _ _ _ (by omega) (by omega) _ _ _ _ _ _ _ _ _ _ h (by omega) ?_ ?_ ?_ ?_ ?_ ?_ ?_
           all_goals simp (disch := first | decide | omega | assumption | exact isS_of (by assumption) | exact ixok_of (by assumption) (by omega) | exact slOk_of (by assumption) | exact bufOk_of (by assumption) (by omega) | fail) only [RAs, RBs, RCs, RDs, REs, RFs, RGs, RHs, RIs, RJs, RKs, RLs, RRt, Nat.reduceLT, Nat.reduceEqDiff, Nat.reduceAdd, Nat.reduceSub, RXa, RXb, RXc, methR, methM, RSl, *])
        | (simp only [Option.some.injEq, Prod.mk.injEq] at h
           obtain ⟨rfl, rfl⟩ := h
           simp (disch := first | decide | omega | assumption | exact isS_of (by assumption) | exact ixok_of (by assumption) (by omega) | exact slOk_of (by assumption) | exact bufOk_of (by assumption) (by omega) | fail) only [W33x0, loop_unf, loopK_N, loopK_E, loopK_R, RAs, RBs, RCs, RDs, REs, RFs, RGs, RHs, RIs, RJs, RKs, RLs, RRt, Nat.reduceLT, Nat.reduceEqDiff, Nat.reduceAdd, Nat.reduceSub, RXa, RXb, RXc, methR, methM, RSl, *])
  | succ n ih =>
    intro rf e O env M r O' h hM e0 e1 e2 e3 e4 e5 e6
    obtain ⟨M, rfl⟩ : ∃ M', M = M' + 1 := ⟨M - 1, by omega⟩
    unfold lookA at h
    repeat' (split at h)
    all_goals first | (cases h; done) | (dsimp only at h; cases h; done) | (exfalso; omega) | skip
    all_goals
      try dsimp only at h
      try simp only [acc, accZ, errA] at *
      first
        | (simp (disch := first | decide | omega | assumption | exact isS_of (by assumption) | exact ixok_of (by assumption) (by omega) | exact slOk_of (by assumption) | exact bufOk_of (by assumption) (by omega) | fail) only [loop_unf, loopK_N, loopK_E, loopK_R, RAs, RBs, RCs, RDs, REs, RFs, RGs, RHs, RIs, RJs, RKs, RLs, RRt, Nat.reduceLT, Nat.reduceEqDiff, Nat.reduceAdd, Nat.reduceSub, RXa, RXb, RXc, methR, methM, RSl, *]
           refine ih _ _ _ _ _ _ _ h (by omega) ?_ ?_ ?_ ?_ ?_ ?_ ?_
           all_goals simp (disch := first | decide | omega | assumption | exact isS_of (by assumption) | exact ixok_of (by assumption) (by omega) | exact slOk_of (by assumption) | exact bufOk_of (by assumption) (by omega) | fail) only [RAs, RBs, RCs, RDs, REs, RFs, RGs, RHs, RIs, RJs, RKs, RLs, RRt, Nat.reduceLT, Nat.reduceEqDiff, Nat.reduceAdd, Nat.reduceSub, RXa, RXb, RXc, methR, methM, RSl, *])
        | (simp (disch := first | decide | omega | assumption | exact isS_of (by assumption) | exact ixok_of (by assumption) (by omega) | exact slOk_of (by assumption) | exact bufOk_of (by assumption) (by omega) | fail) only [loop_unf, loopK_N, loopK_E, loopK_R, RAs, RBs, RCs, RDs, REs, RFs, RGs, RHs, RIs, RJs, RKs, RLs, RRt, Nat.reduceLT, Nat.reduceEqDiff, Nat.reduceAdd, Nat.reduceSub, RXa, RXb, RXc, methR, methM, RSl, *]
           refine lookB_loop _ _ _ _ _ (by omega) (by omega) _ _ _ _ _ _ _ _ _ _ h (by omega) ?_ ?_ ?_ ?_ ?_ ?_ ?_
           all_goals simp (disch := first | decide | omega | assumption | exact isS_of (by assumption) | exact ixok_of (by assumption) (by omega) | exact slOk_of (by assumption) | exact bufOk_of (by assumption) (by omega) | fail) only [RAs, RBs, RCs, RDs, REs, RFs, RGs, RHs, RIs, RJs, RKs, RLs, RRt, Nat.reduceLT, Nat.reduceEqDiff, Nat.reduceAdd, Nat.reduceSub, RXa, RXb, RXc, methR, methM, RSl, *])
        | (simp only [Option.some.injEq, Prod.mk.injEq] at h
           obtain ⟨rfl, rfl⟩ := h
           simp (disch := first | decide | omega | assumption | exact isS_of (by assumption) | exact ixok_of (by assumption) (by omega) | exact slOk_of (by assumption) | exact bufOk_of (by assumption) (by omega) | fail) only [W33x0, loop_unf, loopK_N, loopK_E, loopK_R, RAs, RBs, RCs, RDs, REs, RFs, RGs, RHs, RIs, RJs, RKs, RLs, RRt, Nat.reduceLT, Nat.reduceEqDiff, Nat.reduceAdd, Nat.reduceSub, RXa, RXb, RXc, methR, methM, RSl, *])

/-- gate.Look -/
def lookS : Sp := fun args O =>
  match args with
  | [.iface t0 (.ref 0 km 0), .agg [.int .i64 p, .int .i64 t]] =>
    if t0 = 26 then
      match dNodesS [.agg [.int .i64 p, .int .i64 t]] O with
      | some (.tup [.ref 0 kn 0, .int .i64 e], Oa) =>
        if e = 0 then
          match loadS [.ref 0 km 0, .int .i64 13] Oa with
          | some (.tup [.int .u64 v, .int .i64 e1], Ob) =>
            if e1 = 0 then
              if 0 ≤ v ∧ v ≤ 1000 then
                match loadS [.ref 0 km 0, .int .i64 14] Ob with
                | some (.tup [.int .u64 rf, .int .i64 e2], Oc) => if 1 ≤ t ∧ t ≤ 64 then lookA km kn p t v 100 rf e2 Oc else none
                | _ => none
              else none
            else none
          | _ => none
        else none
      | _ => none
    else none
  | _ => none
theorem lookS_ok : SpOk Tryz.prog 33 lookS := by
  intro args O r O' h S
  unfold lookS at h
  repeat' (split at h)
  all_goals first | (cases h; done) | skip
  all_goals
    try simp only [acc, accZ, errA] at *
    first
      | (simp only [Option.some.injEq, Prod.mk.injEq] at h
         obtain ⟨rfl, rfl⟩ := h
         refine bodyA (tabC_cons dNodesS_ok (tabC_cons loadS_ok (tabC_cons nnodeS_ok (tabC_cons nownerS_ok (tabC_cons nnextS_ok (tabC_nil _)))))) (n := 100000) F33_code ?_
         simp (disch := first | decide | omega | assumption | exact isS_of (by assumption) | exact ixok_of (by assumption) (by omega) | exact slOk_of (by assumption) | exact bufOk_of (by assumption) (by omega) | fail) only [F33, RAs, RBs, RCs, RDs, REs, RFs, RGs, RHs, RIs, RJs, RKs, RLs, RRt, Nat.reduceLT, Nat.reduceEqDiff, Nat.reduceAdd, Nat.reduceSub, RXa, RXb, RXc, methR, methM, RSl, acc, accZ, errA, *])
      | (refine bodyA (tabC_cons dNodesS_ok (tabC_cons loadS_ok (tabC_cons nnodeS_ok (tabC_cons nownerS_ok (tabC_cons nnextS_ok (tabC_nil _)))))) (n := 100000) F33_code ?_
         simp (disch := first | decide | omega | assumption | exact isS_of (by assumption) | exact ixok_of (by assumption) (by omega) | exact slOk_of (by assumption) | exact bufOk_of (by assumption) (by omega) | fail) only [F33, RAs, RBs, RCs, RDs, REs, RFs, RGs, RHs, RIs, RJs, RKs, RLs, RRt, Nat.reduceLT, Nat.reduceEqDiff, Nat.reduceAdd, Nat.reduceSub, RXa, RXb, RXc, methR, methM, RSl, e_loop, acc, accZ, errA, *]
         refine (fin_skip _ _ _ _ _).trans ?_
         refine lookA_loop _ _ _ _ _ (by omega) (by omega) _ _ _ _ _ _ _ _ h (by omega) ?_ ?_ ?_ ?_ ?_ ?_ ?_
         all_goals simp (disch := first | decide | omega | assumption | exact isS_of (by assumption) | exact ixok_of (by assumption) (by omega) | exact slOk_of (by assumption) | exact bufOk_of (by assumption) (by omega) | fail) only [RAs, RBs, RCs, RDs, REs, RFs, RGs, RHs, RIs, RJs, RKs, RLs, RRt, Nat.reduceLT, Nat.reduceEqDiff, Nat.reduceAdd, Nat.reduceSub, RXa, RXb, RXc, methR, methM, RSl, *])

/-- ticketlineref31.Same: the loop 0 -/
def sameG (a b : AV) : Nat → Int → Mo → Option (AV × Mo)
  | 0, i, O => none
  | m + 1, i, O =>
    match rdI O a with
    | some l =>
      match rdI O b with
      | some r =>
        if l.length ≤ 1000 then
          if i < (l.length : Int) then
            if 0 ≤ i then
              if i < (r.length : Int) then
                match l[i.toNat]? with
                | some x =>
                  match r[i.toNat]? with
                  | some y => if x = y then sameG a b m (i + 1) O else some (.bool false, O)
                  | _ => none
                | _ => none
              else none
            else none
          else some (.bool true, O)
        else none
      | _ => none
    | _ => none
theorem sameG_loop {S : Ms} (a b : AV)  : ∀ (n : Nat) (i : Int) (O : Mo) (env : Env) (M : Nat) (r : AV) (O' : Mo) (h : sameG a b n i O = some (r, O')) (hM : n < M) (e0 : env 0 = a) (e1 : env 1 = b) (e2 : env 5 = .int .i64 i),
    W70x0 cfgA (tabC []) 100000 (loopN (exec cfgA (tabC []) 100000 B70x0) [] M ⟨leOf 26 env, O, S ++ [[]]⟩) = some (r, O', S) := by
  intro n
  induction n with
  | zero =>
    intro i O env M r O' h hM e0 e1 e2
    obtain ⟨M, rfl⟩ : ∃ M', M = M' + 1 := ⟨M - 1, by omega⟩
    unfold sameG at h
    repeat' (split at h)
    all_goals first | (cases h; done) | (dsimp only at h; cases h; done) | (exfalso; omega) | skip
    all_goals
      try dsimp only at h
      try simp only [acc, accZ, errA] at *
      first
        | (simp (disch := first | decide | omega | assumption | exact isS_of (by assumption) | exact ixok_of (by assumption) (by omega) | exact slOk_of (by assumption) | exact bufOk_of (by assumption) (by omega) | fail) only [loop_unf, loopK_N, loopK_E, loopK_R, RAs, RBs, RCs, RDs, REs, RFs, RGs, RHs, RIs, RJs, RKs, RLs, RRt, Nat.reduceLT, Nat.reduceEqDiff, Nat.reduceAdd, Nat.reduceSub, RXa, RXb, RXc, methR, methM, RSl, *]
           refine noIh _ _ _ _ _ _ h (by omega) ?_ ?_ ?_
           all_goals simp (disch := first | decide | omega | assumption | exact isS_of (by assumption) | exact ixok_of (by assumption) (by omega) | exact slOk_of (by assumption) | exact bufOk_of (by assumption) (by omega) | fail) only [RAs, RBs, RCs, RDs, REs, RFs, RGs, RHs, RIs, RJs, RKs, RLs, RRt, Nat.reduceLT, Nat.reduceEqDiff, Nat.reduceAdd, Nat.reduceSub, RXa, RXb, RXc, methR, methM, RSl, *])
        | (simp only [Option.some.injEq, Prod.mk.injEq] at h
           obtain ⟨rfl, rfl⟩ := h
           simp (disch := first | decide | omega | assumption | exact isS_of (by assumption) | exact ixok_of (by assumption) (by omega) | exact slOk_of (by assumption) | exact bufOk_of (by assumption) (by omega) | fail) only [W70x0, loop_unf, loopK_N, loopK_E, loopK_R, RAs, RBs, RCs, RDs, REs, RFs, RGs, RHs, RIs, RJs, RKs, RLs, RRt, Nat.reduceLT, Nat.reduceEqDiff, Nat.reduceAdd, Nat.reduceSub, RXa, RXb, RXc, methR, methM, RSl, *])
  | succ n ih =>
    intro i O env M r O' h hM e0 e1 e2
    obtain ⟨M, rfl⟩ : ∃ M', M = M' + 1 := ⟨M - 1, by omega⟩
    unfold sameG at h
    repeat' (split at h)
    all_goals first | (cases h; done) | (dsimp only at h; cases h; done) | (exfalso; omega) | skip
    all_goals
      try dsimp only at h
      try simp only [acc, accZ, errA] at *
      first
        | (simp (disch := first | decide | omega | assumption | exact isS_of (by assumption) | exact ixok_of (by assumption) (by omega) | exact slOk_of (by assumption) | exact bufOk_of (by assumption) (by omega) | fail) only [loop_unf, loopK_N, loopK_E, loopK_R, RAs, RBs, RCs, RDs, REs, RFs, RGs, RHs, RIs, RJs, RKs, RLs, RRt, Nat.reduceLT, Nat.reduceEqDiff, Nat.reduceAdd, Nat.reduceSub, RXa, RXb, RXc, methR, methM, RSl, *]
           refine ih _ _ _ _ _ _ h (by omega) ?_ ?_ ?_
           all_goals simp (disch := first | decide | omega | assumption | exact isS_of (by assumption) | exact ixok_of (by assumption) (by omega) | exact slOk_of (by assumption) | exact bufOk_of (by assumption) (by omega) | fail) only [RAs, RBs, RCs, RDs, REs, RFs, RGs, RHs, RIs, RJs, RKs, RLs, RRt, Nat.reduceLT, Nat.reduceEqDiff, Nat.reduceAdd, Nat.reduceSub, RXa, RXb, RXc, methR, methM, RSl, *])
        | (simp only [Option.some.injEq, Prod.mk.injEq] at h
           obtain ⟨rfl, rfl⟩ := h
           simp (disch := first | decide | omega | assumption | exact isS_of (by assumption) | exact ixok_of (by assumption) (by omega) | exact slOk_of (by assumption) | exact bufOk_of (by assumption) (by omega) | fail) only [W70x0, loop_unf, loopK_N, loopK_E, loopK_R, RAs, RBs, RCs, RDs, REs, RFs, RGs, RHs, RIs, RJs, RKs, RLs, RRt, Nat.reduceLT, Nat.reduceEqDiff, Nat.reduceAdd, Nat.reduceSub, RXa, RXb, RXc, methR, methM, RSl, *])

attribute [local irreducible] sameG
/-- ticketlineref31.Same -/
def sameS : Sp := fun args O =>
  match args with
  | [a, b] =>
    match rdI O a with
    | some l =>
      match rdI O b with
      | some r =>
        if l.length ≤ 1000 then
          if (l.length : Int) = (r.length : Int) then sameG a b 1001 0 O
          else some (.bool false, O)
        else none
      | _ => none
    | _ => none
  | _ => none
theorem sameS_ok : SpOk Tryz.prog 70 sameS := by
  intro args O r O' h S
  unfold sameS at h
  repeat' (split at h)
  all_goals first | (cases h; done) | skip
  all_goals
    try simp only [acc, accZ, errA] at *
    first
      | (simp only [Option.some.injEq, Prod.mk.injEq] at h
         obtain ⟨rfl, rfl⟩ := h
         refine bodyA (tabC_nil _) (n := 100000) F70_code ?_
         simp (disch := first | decide | omega | assumption | exact isS_of (by assumption) | exact ixok_of (by assumption) (by omega) | exact slOk_of (by assumption) | exact bufOk_of (by assumption) (by omega) | fail) only [F70, RAs, RBs, RCs, RDs, REs, RFs, RGs, RHs, RIs, RJs, RKs, RLs, RRt, Nat.reduceLT, Nat.reduceEqDiff, Nat.reduceAdd, Nat.reduceSub, RXa, RXb, RXc, methR, methM, RSl, acc, accZ, errA, *])
      | (refine bodyA (tabC_nil _) (n := 100000) F70_code ?_
         simp (disch := first | decide | omega | assumption | exact isS_of (by assumption) | exact ixok_of (by assumption) (by omega) | exact slOk_of (by assumption) | exact bufOk_of (by assumption) (by omega) | fail) only [F70, RAs, RBs, RCs, RDs, REs, RFs, RGs, RHs, RIs, RJs, RKs, RLs, RRt, Nat.reduceLT, Nat.reduceEqDiff, Nat.reduceAdd, Nat.reduceSub, RXa, RXb, RXc, methR, methM, RSl, e_loop, acc, accZ, errA, *]
         refine (fin_skip _ _ _ _ _).trans ?_
         refine sameG_loop _ _ _ _ _ _ _ _ _ h (by omega) ?_ ?_ ?_
         all_goals simp (disch := first | decide | omega | assumption | exact isS_of (by assumption) | exact ixok_of (by assumption) (by omega) | exact slOk_of (by assumption) | exact bufOk_of (by assumption) (by omega) | fail) only [RAs, RBs, RCs, RDs, REs, RFs, RGs, RHs, RIs, RJs, RKs, RLs, RRt, Nat.reduceLT, Nat.reduceEqDiff, Nat.reduceAdd, Nat.reduceSub, RXa, RXb, RXc, methR, methM, RSl, *])

/-- ticketlinelaw31.looks -/
def looksS : Sp := fun args O =>
  match args with
  | [.agg [.int .i64 p, .int .i64 t], .ref 0 km 0, .int .i64 ins, q] =>
    match lookS [.iface 26 (.ref 0 km 0), .agg [.int .i64 p, .int .i64 t]] O with
    | some (.tup [.agg [.int .i64 v, w], .int .i64 e], Oa) =>
      if e = 0 then
        match rdI Oa w with
        | some _ =>
          match rdI Oa q with
          | some _ =>
            if v = ins then
              match sameS [w, q] Oa with
              | some (.bool b, Ob) => some (.bool b, Ob)
              | _ => none
            else some (.bool false, Oa)
          | _ => none
        | _ => none
      else none
    | _ => none
  | _ => none
theorem looksS_ok : SpOk Tryz.prog 23 looksS := by
  intro args O r O' h S
  unfold looksS at h
  repeat' (split at h)
  all_goals first | (cases h; done) | skip
  all_goals
    simp only [Option.some.injEq, Prod.mk.injEq] at h
    obtain ⟨rfl, rfl⟩ := h
    refine bodyA (tabC_cons lookS_ok (tabC_cons sameS_ok (tabC_nil _))) (n := 0) F23_code ?_
    try simp only [acc, accZ, errA] at *
    simp (disch := first | decide | omega | assumption | exact isS_of (by assumption) | exact ixok_of (by assumption) (by omega) | exact slOk_of (by assumption) | exact bufOk_of (by assumption) (by omega) | fail) only [F23, RAs, RBs, RCs, RDs, REs, RFs, RGs, RHs, RIs, RJs, RKs, RLs, RRt, Nat.reduceLT, Nat.reduceEqDiff, Nat.reduceAdd, Nat.reduceSub, RXa, RXb, RXc, methR, methM, RSl, acc, accZ, errA, *]

end Den

/- GateErrors: what it computes. -/
set_option maxRecDepth 100000
set_option maxHeartbeats 4000000
set_option linter.unusedSimpArgs false
set_option linter.unusedVariables false
namespace Den
open Go Go.Proofs

/-- slices.Equal[[]uint64,uint64]: the loop 0 -/
def eqG (k k2 cn : Nat) : Nat → Int → Mo → Option (AV × Mo)
  | 0, i, O => none
  | m + 1, i, O =>
    match O[k]? with
    | some (.buf 1 ws) =>
      match O[k2]? with
      | some (.buf 1 vs) =>
        if ws.length = cn then
          if vs.length = cn then
            if i < (cn : Int) then
              if 0 ≤ i then
                match ws[i.toNat]? with
                | some (.int .u64 x) =>
                  match vs[i.toNat]? with
                  | some (.int .u64 y) => if x = y then eqG k k2 cn m (i + 1) O else some (.bool false, O)
                  | _ => none
                | _ => none
              else none
            else some (.bool true, O)
          else none
        else none
      | _ => none
    | _ => none
theorem eqG_loop {S : Ms} (k k2 cn : Nat) (h0 : cn ≤ 70000) : ∀ (n : Nat) (i : Int) (O : Mo) (env : Env) (M : Nat) (r : AV) (O' : Mo) (h : eqG k k2 cn n i O = some (r, O')) (hM : n < M) (e0 : env 0 = .bref 0 k 0 cn cn) (e1 : env 1 = .bref 0 k2 0 cn cn) (e2 : env 12 = .int .i64 cn) (e3 : env 13 = .int .i64 i),
    W92x0 cfgA (tabC []) 100000 (loopN (exec cfgA (tabC []) 100000 B92x0) [] M ⟨leOf 26 env, O, S ++ [[]]⟩) = some (r, O', S) := by
  intro n
  induction n with
  | zero =>
    intro i O env M r O' h hM e0 e1 e2 e3
    obtain ⟨M, rfl⟩ : ∃ M', M = M' + 1 := ⟨M - 1, by omega⟩
    unfold eqG at h
    repeat' (split at h)
    all_goals first | (cases h; done) | (dsimp only at h; cases h; done) | (exfalso; omega) | skip
    all_goals
      try dsimp only at h
      try simp only [acc, accZ, errA] at *
      first
        | (simp (disch := first | decide | omega | assumption) only [loop_unf, loopK_N, loopK_E, loopK_R, RAs, RBs, RCs, RDs, REs, RFs, RGs, RHs, RIs, RJs, RKs, RLs, RRt, Nat.reduceLT, Nat.reduceEqDiff, Nat.reduceAdd, Nat.reduceSub, RXa, RXb, RXc, methR, methE, methM, *]
           refine noIh _ _ _ _ _ _ h (by omega) ?_ ?_ ?_ ?_
           all_goals simp (disch := first | decide | omega | assumption) only [RAs, RBs, RCs, RDs, REs, RFs, RGs, RHs, RIs, RJs, RKs, RLs, RRt, Nat.reduceLT, Nat.reduceEqDiff, Nat.reduceAdd, Nat.reduceSub, RXa, RXb, RXc, methR, methE, methM, *])
        | (simp only [Option.some.injEq, Prod.mk.injEq] at h
           obtain ⟨rfl, rfl⟩ := h
           simp (disch := first | decide | omega | assumption) only [W92x0, loop_unf, loopK_N, loopK_E, loopK_R, RAs, RBs, RCs, RDs, REs, RFs, RGs, RHs, RIs, RJs, RKs, RLs, RRt, Nat.reduceLT, Nat.reduceEqDiff, Nat.reduceAdd, Nat.reduceSub, RXa, RXb, RXc, methR, methE, methM, *])
  | succ n ih =>
    intro i O env M r O' h hM e0 e1 e2 e3
    obtain ⟨M, rfl⟩ : ∃ M', M = M' + 1 := ⟨M - 1, by omega⟩
    unfold eqG at h
    repeat' (split at h)
    all_goals first | (cases h; done) | (dsimp only at h; cases h; done) | (exfalso; omega) | skip
    all_goals
      try dsimp only at h
      try simp only [acc, accZ, errA] at *
      first
        | (simp (disch := first | decide | omega | assumption) only [loop_unf, loopK_N, loopK_E, loopK_R, RAs, RBs, RCs, RDs, REs, RFs, RGs, RHs, RIs, RJs, RKs, RLs, RRt, Nat.reduceLT, Nat.reduceEqDiff, Nat.reduceAdd, Nat.reduceSub, RXa, RXb, RXc, methR, methE, methM, *]
           refine ih _ _ _ _ _ _ h (by omega) ?_ ?_ ?_ ?_
           all_goals simp (disch := first | decide | omega | assumption) only [RAs, RBs, RCs, RDs, REs, RFs, RGs, RHs, RIs, RJs, RKs, RLs, RRt, Nat.reduceLT, Nat.reduceEqDiff, Nat.reduceAdd, Nat.reduceSub, RXa, RXb, RXc, methR, methE, methM, *])
        | (simp only [Option.some.injEq, Prod.mk.injEq] at h
           obtain ⟨rfl, rfl⟩ := h
           simp (disch := first | decide | omega | assumption) only [W92x0, loop_unf, loopK_N, loopK_E, loopK_R, RAs, RBs, RCs, RDs, REs, RFs, RGs, RHs, RIs, RJs, RKs, RLs, RRt, Nat.reduceLT, Nat.reduceEqDiff, Nat.reduceAdd, Nat.reduceSub, RXa, RXb, RXc, methR, methE, methM, *])

attribute [local irreducible] eqG
/-- slices.Equal[[]uint64,uint64] -/
def equalS : Sp := fun args O =>
  match args with
  | [.bref 0 k 0 n1 t1, .bref 0 k2 0 n2 t2] =>
    if n1 = t1 then
      if n2 = t1 then
        if t1 ≤ 70000 then
          if t2 = t1 then eqG k k2 t1 70001 0 O else none
        else none
      else none
    else none
  | _ => none
theorem equalS_ok : SpOk Tryz.prog 92 equalS := by
  intro args O r O' h S
  unfold equalS at h
  repeat' (split at h)
  all_goals first | (cases h; done) | skip
  all_goals
    try simp only [acc, accZ, errA] at *
    first
      | (simp only [Option.some.injEq, Prod.mk.injEq] at h
         obtain ⟨rfl, rfl⟩ := h
         refine bodyA (tabC_nil _) (n := 100000) F92_code ?_
         simp (disch := first | decide | omega | assumption) only [F92, RAs, RBs, RCs, RDs, REs, RFs, RGs, RHs, RIs, RJs, RKs, RLs, RRt, Nat.reduceLT, Nat.reduceEqDiff, Nat.reduceAdd, Nat.reduceSub, RXa, RXb, RXc, methR, methE, methM, acc, accZ, errA, *])
      | (refine bodyA (tabC_nil _) (n := 100000) F92_code ?_
         simp (disch := first | decide | omega | assumption) only [F92, RAs, RBs, RCs, RDs, REs, RFs, RGs, RHs, RIs, RJs, RKs, RLs, RRt, Nat.reduceLT, Nat.reduceEqDiff, Nat.reduceAdd, Nat.reduceSub, RXa, RXb, RXc, methR, methE, methM, e_loop, acc, accZ, errA, *]
         refine (fin_skip _ _ _ _ _).trans ?_
         refine eqG_loop _ _ _ (by omega) _ _ _ _ _ _ _ h (by omega) ?_ ?_ ?_ ?_
         all_goals simp (disch := first | decide | omega | assumption) only [RAs, RBs, RCs, RDs, REs, RFs, RGs, RHs, RIs, RJs, RKs, RLs, RRt, Nat.reduceLT, Nat.reduceEqDiff, Nat.reduceAdd, Nat.reduceSub, RXa, RXb, RXc, methR, methE, methM, *])

/-- mem.Mem.Same -/
def memSameS : Sp := fun args O =>
  match args with
  | [.ref 0 a 0, .ref 0 b 0] =>
    match zeroS [.ref 0 a 0] O with
    | some (.bool false, Oa) =>
      match zeroS [.ref 0 b 0] Oa with
      | some (.bool false, Ob) =>
        match Ob[a]? with
        | some (.arr [.bref 0 k 0 n1 t1]) =>
          match Ob[b]? with
          | some (.arr [.bref 0 k2 0 n2 t2]) =>
            match equalS [.bref 0 k 0 n1 t1, .bref 0 k2 0 n2 t2] Ob with
            | some (.bool r, Oc) => some (.bool r, Oc)
            | _ => none
          | _ => none
        | _ => none
      | _ => none
    | _ => none
  | _ => none
theorem memSameS_ok : SpOk Tryz.prog 39 memSameS := by
  intro args O r O' h S
  unfold memSameS at h
  repeat' (split at h)
  all_goals first | (cases h; done) | skip
  all_goals
    simp only [Option.some.injEq, Prod.mk.injEq] at h
    obtain ⟨rfl, rfl⟩ := h
    refine bodyA (tabC_cons zeroS_ok (tabC_cons equalS_ok (tabC_nil _))) (n := 0) F39_code ?_
    try simp only [acc, accZ, errA] at *
    simp (disch := first | decide | omega | assumption) only [F39, RAs, RBs, RCs, RDs, REs, RFs, RGs, RHs, RIs, RJs, RKs, RLs, RRt, Nat.reduceLT, Nat.reduceEqDiff, Nat.reduceAdd, Nat.reduceSub, RXa, RXb, RXc, methR, methE, methM, acc, accZ, errA, *]

/-- ticketlinelaw31.GateErrors -/
def gerrK (O : Mo) : Option (AV × Mo) :=
  match known31S [] O with
  | some (.bool b, Oa) => some (.bool b, Oa)
  | _ => none
def gerrB (p t : Int) (km kp kc kd : Nat) (O : Mo) : Option (AV × Mo) :=
  match run31S [.iface 42 (.ref 0 kp 0), .ref 0 km 0, .int .i64 60] O with
  | some (.tup [.bool true, .bool _], Oa) =>
    match run31S [.iface 42 (.ref 0 kc 0), .ref 0 kd 0, .int .i64 60] Oa with
    | some (.tup [.bool true, .bool _], Ob) =>
      match enterStepS [.ref 0 kp 0, .iface 26 (.ref 0 km 0)] Ob with
      | some (.tup [.bool _, .int .i64 e], Oc) =>
        if e = 17 then
          match memSameS [.ref 0 km 0, .ref 0 kd 0] Oc with
          | some (.bool true, Od) =>
            match looksS [.agg [.int .i64 p, .int .i64 t], .ref 0 km 0, .int .i64 1, .nils] Od with
            | some (.bool true, Oe) => gerrK Oe
            | _ => none
          | _ => none
        else none
      | _ => none
    | _ => none
  | _ => none
def gerrA (p t th mo af : Int) (kp : Nat) (O : Mo) : Option (AV × Mo) :=
  if 20 < p then gerrK O
  else
    match formatS [.agg [.int .i64 p, .int .i64 t]] O with
    | some (.tup [.ref 0 km 0, .int .i64 e1], Oa) =>
      if e1 = 0 then
        match run31S [.iface 42 (.ref 0 kp 0), .ref 0 km 0, .int .i64 (af % 20)] Oa with
        | some (.tup [.bool _, .bool _], Ob) =>
          match enterCopyS [.ref 0 kp 0] Ob with
          | some (.iface ty (.ref 0 kc 0), Oc) =>
            if ty = 42 then
              match enterDoneS [.ref 0 kc 0] Oc with
              | some (.bool b1, Od) =>
                match enterDoneS [.ref 0 kp 0] Od with
                | some (.bool b2, Oe) =>
                  if b1 = b2 then
                    match memCopyS [.ref 0 km 0] Oe with
                    | some (.ref 0 kd 0, Of) => gerrB p t km kp kc kd Of
                    | _ => none
                  else none
                | _ => none
              | _ => none
            else none
          | _ => none
        | _ => none
      else none
    | _ => none
def gerrS : Sp := fun args O =>
  match args with
  | [.agg [.int .i64 p, .int .i64 t], .int .i64 th, .int .i64 mo, .int .u8 af] =>
    if 0 ≤ af ∧ af ≤ 255 then
      match newEnterS [.agg [.int .i64 p, .int .i64 t], .int .i64 th, .int .i64 mo] O with
      | some (.tup [.nilp, .int .i64 e], Oa) =>
        if e = 2 then
          match newLeaveS [.agg [.int .i64 p, .int .i64 t], .int .i64 th] Oa with
          | some (.tup [.nilp, .int .i64 f], Ob) =>
            if f = 2 then
              match dWordsS [.agg [.int .i64 p, .int .i64 t]] Ob with
              | some (.tup [.int .i64 nw, .int .i64 g], Oc) =>
                if g = 0 then
                  if th < 0 then gerrK Oc
                  else if t ≤ th then gerrK Oc
                  else none
                else gerrK Oc
              | _ => none
            else none
          | some (.tup [.ref 0 kq 0, .int .i64 f], Ob) =>
            if f = 0 then
              match dWordsS [.agg [.int .i64 p, .int .i64 t]] Ob with
              | some (.tup [.int .i64 nw, .int .i64 g], Oc) =>
                if g = 0 then
                  if th < 0 then none
                  else if t ≤ th then none
                  else if mo < 1 then gerrK Oc
                  else if 64 < mo then gerrK Oc
                  else none
                else none
              | _ => none
            else none
          | _ => none
        else none
      | some (.tup [.ref 0 kp 0, .int .i64 e], Oa) =>
        if e = 0 then
          match newLeaveS [.agg [.int .i64 p, .int .i64 t], .int .i64 th] Oa with
          | some (.tup [.ref 0 kq 0, .int .i64 f], Ob) =>
            if f = 0 then
              match dWordsS [.agg [.int .i64 p, .int .i64 t]] Ob with
              | some (.tup [.int .i64 nw, .int .i64 g], Oc) =>
                if g = 0 then
                  if th < 0 then none
                  else if t ≤ th then none
                  else if mo < 1 then none
                  else if 64 < mo then none
                  else gerrA p t th mo af kp Oc
                else none
              | _ => none
            else none
          | _ => none
        else none
      | _ => none
    else none
  | _ => none
theorem gerrS_ok : SpOk Tryz.prog 7 gerrS := by
  intro args O r O' h S
  unfold gerrS at h
  repeat' (split at h)
  all_goals first | (cases h; done) | skip
  all_goals try unfold gerrA at h
  all_goals try unfold gerrB at h
  all_goals try unfold gerrK at h
  all_goals try (repeat' (split at h))
  all_goals first | (cases h; done) | skip
  all_goals
    simp only [Option.some.injEq, Prod.mk.injEq] at h
    obtain ⟨rfl, rfl⟩ := h
    refine bodyA (tabC_cons newEnterS_ok (tabC_cons newLeaveS_ok (tabC_cons dWordsS_ok (tabC_cons known31S_ok (tabC_cons formatS_ok (tabC_cons run31S_ok (tabC_cons enterCopyS_ok (tabC_cons enterDoneS_ok (tabC_cons memCopyS_ok (tabC_cons enterStepS_ok (tabC_cons memSameS_ok (tabC_cons looksS_ok (tabC_nil _))))))))))))) (n := 0) F7_code ?_
    try simp only [acc, accZ, errA] at *
    simp (disch := first | decide | omega | assumption) only [F7, RAs, RBs, RCs, RDs, REs, RFs, RGs, RHs, RIs, RJs, RKs, RLs, RRt, Nat.reduceLT, Nat.reduceEqDiff, Nat.reduceAdd, Nat.reduceSub, RXa, RXb, RXc, methR, methE, methM, acc, accZ, errA, *]

end Den

/- GateErrors: the answer is yes. -/
set_option maxRecDepth 100000
set_option maxHeartbeats 1000000
set_option linter.unusedSimpArgs false
set_option linter.unusedVariables false
namespace Den
open Go Go.Proofs

theorem dnodes_ok (O : Mo) (p t : Int) (hp : 1 ≤ p ∧ p ≤ 511) (ht : 1 ≤ t ∧ t ≤ 17) : dNodesS [.agg [.int .i64 p, .int .i64 t]] O = some (.tup [.ref 0 O.length 0, .int .i64 0], O ++ [.arr [.int .i64 (16 + 128 * p), .int .i64 t]]) := by
  have d1 : ¬ p < 1 := by omega
  have d2 : ¬ 511 < p := by omega
  have d3 : ¬ t < 1 := by omega
  have d4 : ¬ 17 < t := by omega
  simp only [dNodesS, if_neg d1, if_neg d2, if_neg d3, if_neg d4]
theorem dnodes_bad (O : Mo) (p t : Int) (h : ¬ (1 ≤ p ∧ p ≤ 511 ∧ 1 ≤ t ∧ t ≤ 17)) : dNodesS [.agg [.int .i64 p, .int .i64 t]] O = some (.tup [.nilp, .int .i64 2], O) := by
  by_cases d1 : p < 1
  · simp only [dNodesS, if_pos d1]
  by_cases d2 : 511 < p
  · simp only [dNodesS, if_neg d1, if_pos d2]
  by_cases d3 : t < 1
  · simp only [dNodesS, if_neg d1, if_neg d2, if_pos d3]
  by_cases d4 : 17 < t
  · simp only [dNodesS, if_neg d1, if_neg d2, if_neg d3, if_pos d4]
  omega
/-- A program at its beginning. -/
structure Gn (O : Mo) (k ka kn : Nat) (b t th : Int) (p : GP) : Prop where
  N : NodesO O kn b t
  A : SubO O ka kn 12 (th * 2) p.pc p.ot p.en
  K : O[k]? = some (gtB kn (th * 2 + 1) p.st p.ty ka p.val p.mu th p.x)
  h1 : 0 ≤ th
  h2 : th < t
theorem Gn.ge {O : Mo} {km kb k ka kn : Nat} {W : List Int} {b t th : Int} {p : GP} (h : Gn O k ka kn b t th p) (m : MemW O km kb W) : Ge O km kb k ka kn W b t th p := ⟨m, h.N, h.A, h.K, h.h1, h.h2⟩
theorem Ge.gn {O : Mo} {km kb k ka kn : Nat} {W : List Int} {b t th : Int} {p : GP} (h : Ge O km kb k ka kn W b t th p) : Gn O k ka kn b t th p := ⟨h.N, h.A, h.K, h.h1, h.h2⟩
theorem Gn.ag {O O' : Mo} {k ka kn : Nat} {b t th : Int} {p : GP} {l : List Nat} (h : Gn O k ka kn b t th p) (g : Ag O O' l) (h1 : k ∉ l) (h2 : ka ∉ l) (h3 : kn ∉ l) : Gn O' k ka kn b t th p :=
  ⟨h.N.ag g h3, g.get h.A h2, g.get h.K h1, h.h1, h.h2⟩
theorem Gn.lt {O : Mo} {k ka kn : Nat} {b t th : Int} {p : GP} (h : Gn O k ka kn b t th p) : k < O.length ∧ ka < O.length ∧ kn < O.length := ⟨lt_of_get h.K, lt_of_get h.A, lt_of_get h.N.o⟩
/-- What gate.made makes. -/
theorem gmade_ok (O : Mo) (p t th : Int) (hp : 1 ≤ p ∧ p ≤ 511) (ht : 1 ≤ t ∧ t ≤ 17) (h1 : 0 ≤ th) (h2 : th < t) :
    gmadeS [.agg [.int .i64 p, .int .i64 t], .int .i64 th] O = some (.tup [.agg [.ref 0 O.length 0, .int .i64 (th * 2 + 1), .int .i64 1, .iface acqT (.ref 0 (O.length + 1) 0), .int .u64 0, .bool false], .int .i64 0],
      O ++ [.arr [.int .i64 (16 + 128 * p), .int .i64 t]] ++ [subB O.length 12 (th * 2) 1 0 false]) := by
  have N : NodesO (O ++ [.arr [.int .i64 (16 + 128 * p), .int .i64 t]]) O.length (16 + 128 * p) t := ⟨app_last _ _, by omega, by omega, by omega, by omega, by omega⟩
  have e1 := of_ok1 N h1 h2
  have e2 := of_ok N h1 h2
  have e3 := acq_ok (lk := 12) (nd := th * 2) N (by omega) (by omega) (by omega) (by omega)
  have c1 : ¬ th < 0 := by omega
  have c2 : ¬ t ≤ th := by omega
  simp only [gmadeS, dnodes_ok O p t hp ht, if_true, if_neg c1, if_neg c2, e1, e2, e3]
  simp [acqT]
theorem gmade_bad (O : Mo) (p t th : Int) (h : ¬ (1 ≤ p ∧ p ≤ 511 ∧ 1 ≤ t ∧ t ≤ 17 ∧ 0 ≤ th ∧ th < t)) :
    ∃ O', gmadeS [.agg [.int .i64 p, .int .i64 t], .int .i64 th] O = some (.tup [.agg [.nilp, .int .i64 0, .int .i64 0, .nili, .int .u64 0, .bool false], .int .i64 2], O') := by
  by_cases d : 1 ≤ p ∧ p ≤ 511 ∧ 1 ≤ t ∧ t ≤ 17
  · have e := dnodes_ok O p t ⟨d.1, d.2.1⟩ d.2.2
    by_cases c1 : th < 0
    · exact ⟨_, by simp only [gmadeS, e, if_true, if_pos c1]; rfl⟩
    · have c2 : t ≤ th := by omega
      exact ⟨_, by simp only [gmadeS, e, if_true, if_neg c1, if_pos c2]; rfl⟩
  · exact ⟨O, by simp only [gmadeS, dnodes_bad O p t d]; simp⟩
theorem new_gn {O : Mo} {p t th x : Int} (hp : 1 ≤ p ∧ p ≤ 511) (ht : 1 ≤ t ∧ t ≤ 17) (h1 : 0 ≤ th) (h2 : th < t) :
    Gn (O ++ [ABlk.arr [.int .i64 (16 + 128 * p), .int .i64 t]] ++ [subB O.length 12 (th * 2) 1 0 false] ++ [.arr [.ref 0 O.length 0, .int .i64 (th * 2 + 1), .int .i64 1, .iface acqT (.ref 0 (O.length + 1) 0), .int .u64 0, .bool false, .int .i64 th, .int .i64 x]])
      (O.length + 2) (O.length + 1) O.length (16 + 128 * p) t th (gp0 x) where
  N := ⟨app_get (app_get (app_last _ _)), by omega, by omega, by omega, by omega, by omega⟩
  A := by simp [SubO, gp0]
  K := by simp [gtB, gp0]
  h1 := h1
  h2 := h2
theorem newEnter_ok (O : Mo) (p t th mo : Int) (hp : 1 ≤ p ∧ p ≤ 511) (ht : 1 ≤ t ∧ t ≤ 17) (h1 : 0 ≤ th) (h2 : th < t) (m1 : 1 ≤ mo) (m2 : mo ≤ 64) :
    ∃ O', newEnterS [.agg [.int .i64 p, .int .i64 t], .int .i64 th, .int .i64 mo] O = some (.tup [.ref 0 (O.length + 2) 0, .int .i64 0], O') ∧ Ag O O' [] ∧ Gn O' (O.length + 2) (O.length + 1) O.length (16 + 128 * p) t th (gp0 mo) := by
  have c1 : ¬ mo < 1 := by omega
  have c2 : ¬ 64 < mo := by omega
  refine ⟨_, ?_, ((Ag.app _ _ _).trans (Ag.app _ _ _)).trans (Ag.app _ _ _), new_gn hp ht h1 h2⟩
  simp only [newEnterS, gmade_ok O p t th hp ht h1 h2, if_true, if_neg c1, if_neg c2]
  simp
theorem newLeave_ok (O : Mo) (p t th : Int) (hp : 1 ≤ p ∧ p ≤ 511) (ht : 1 ≤ t ∧ t ≤ 17) (h1 : 0 ≤ th) (h2 : th < t) :
    ∃ O', newLeaveS [.agg [.int .i64 p, .int .i64 t], .int .i64 th] O = some (.tup [.ref 0 (O.length + 2) 0, .int .i64 0], O') ∧ Ag O O' [] ∧ Gn O' (O.length + 2) (O.length + 1) O.length (16 + 128 * p) t th (gp0 0) := by
  refine ⟨_, ?_, ((Ag.app _ _ _).trans (Ag.app _ _ _)).trans (Ag.app _ _ _), new_gn hp ht h1 h2⟩
  simp only [newLeaveS, gmade_ok O p t th hp ht h1 h2, if_true]
  simp
theorem enter_bad (O : Mo) (p t th mo : Int) (h : ¬ (1 ≤ p ∧ p ≤ 511 ∧ 1 ≤ t ∧ t ≤ 17 ∧ 0 ≤ th ∧ th < t ∧ 1 ≤ mo ∧ mo ≤ 64)) :
    ∃ O', newEnterS [.agg [.int .i64 p, .int .i64 t], .int .i64 th, .int .i64 mo] O = some (.tup [.nilp, .int .i64 2], O') := by
  by_cases d : 1 ≤ p ∧ p ≤ 511 ∧ 1 ≤ t ∧ t ≤ 17 ∧ 0 ≤ th ∧ th < t
  · have e := gmade_ok O p t th ⟨d.1, d.2.1⟩ ⟨d.2.2.1, d.2.2.2.1⟩ d.2.2.2.2.1 d.2.2.2.2.2
    by_cases c1 : mo < 1
    · exact ⟨_, by simp only [newEnterS, e, if_true, if_pos c1]; rfl⟩
    · have c2 : 64 < mo := by omega
      exact ⟨_, by simp only [newEnterS, e, if_true, if_neg c1, if_pos c2]; rfl⟩
  · obtain ⟨O', e⟩ := gmade_bad O p t th d
    exact ⟨O', by simp only [newEnterS, e]; simp⟩
theorem leave_bad (O : Mo) (p t th : Int) (h : ¬ (1 ≤ p ∧ p ≤ 511 ∧ 1 ≤ t ∧ t ≤ 17 ∧ 0 ≤ th ∧ th < t)) :
    ∃ O', newLeaveS [.agg [.int .i64 p, .int .i64 t], .int .i64 th] O = some (.tup [.nilp, .int .i64 2], O') := by
  obtain ⟨O', e⟩ := gmade_bad O p t th h
  exact ⟨O', by simp only [newLeaveS, e]; simp⟩

/-! Runs, one behind the other -/
theorem runP_nz {f : GP → List Int → Option (GP × List Int × Bool)} : ∀ (n : Nat) {p p' : GP} {W W' : List Int} {l l' : Bool}, runP f n p W l = some (p', W', l') → p'.st ≠ 0
  | 0, p, p', W, W', l, l', h => by
    unfold runP at h
    split at h
    · cases h
    · rename_i hz; cases h; exact hz
  | n + 1, p, p', W, W', l, l', h => by
    unfold runP at h
    split at h
    · cases h
    split at h
    · rename_i hz h16; cases h; rw [h16]; omega
    split at h
    · exact runP_nz n h
    · cases h
theorem runP_add {f : GP → List Int → Option (GP × List Int × Bool)} (m : Nat) : ∀ (n : Nat) {p p' : GP} {W W' : List Int} {l l' : Bool}, runP f n p W l = some (p', W', l') → runP f (n + m) p W l = runP f m p' W' l'
  | 0, p, p', W, W', l, l', h => by
    unfold runP at h
    split at h
    · cases h
    · cases h; rw [Nat.zero_add]
  | n + 1, p, p', W, W', l, l', h => by
    rw [show n + 1 + m = (n + m) + 1 by omega]
    unfold runP at h
    split at h
    · cases h
    rename_i hz
    split at h
    · rename_i h16; cases h; rw [runP_end h16, runP_end h16]
    · rename_i h16
      split at h
      · rename_i q p1 W1 w1 hq
        rw [runP_step hz h16 hq]
        exact runP_add m n h
      · cases h
/-- As far as one has come, one may stop. -/
theorem runP_pre {f : GP → List Int → Option (GP × List Int × Bool)} : ∀ (n m : Nat) {p p' : GP} {W W' : List Int} {l l' : Bool}, runP f (n + m) p W l = some (p', W', l') → ∃ p1 W1 l1, runP f n p W l = some (p1, W1, l1)
  | 0, m, p, p', W, W', l, l', h => by
    by_cases hz : p.st = 0
    · exfalso
      rw [Nat.zero_add] at h
      cases m with
      | zero => simp [runP, hz] at h
      | succ m => simp [runP, hz] at h
    · exact ⟨p, W, l, by simp [runP, hz]⟩
  | n + 1, m, p, p', W, W', l, l', h => by
    rw [show n + 1 + m = (n + m) + 1 by omega] at h
    unfold runP at h ⊢
    split at h
    · cases h
    rename_i hz
    rw [if_neg hz]
    split at h
    · rename_i h16; rw [if_pos h16]; exact ⟨_, _, _, rfl⟩
    · rename_i h16
      rw [if_neg h16]
      split at h
      · exact runP_pre n m h
      · cases h
/-- What the last step was before does not matter, but for a run of no steps. -/
theorem runP_last {f : GP → List Int → Option (GP × List Int × Bool)} : ∀ (n : Nat) {p p' : GP} {W W' : List Int} {l l' : Bool}, runP f n p W l = some (p', W', l') → ∀ l2, ∃ l3, runP f n p W l2 = some (p', W', l3)
  | 0, p, p', W, W', l, l', h, l2 => by
    unfold runP at h ⊢
    split at h
    · cases h
    · rename_i hz; cases h; rw [if_neg hz]; exact ⟨_, rfl⟩
  | n + 1, p, p', W, W', l, l', h, l2 => by
    unfold runP at h ⊢
    split at h
    · cases h
    rename_i hz
    rw [if_neg hz]
    split at h
    · rename_i h16; cases h; rw [if_pos h16]; exact ⟨_, rfl⟩
    · rename_i h16
      rw [if_neg h16]
      split at h
      · exact ⟨_, h⟩
      · cases h
theorem enterP_ty {b t th : Int} {p p' : GP} {W W' : List Int} {w : Bool} (h : enterP b t th p W = some (p', W', w)) (hp : p.ty = acqT ∨ p.ty = relT) : p'.ty = acqT ∨ p'.ty = relT := by
  obtain ⟨st, ty, val, mu, x, pc, ot, en⟩ := p
  unfold enterP at h
  dsimp only at h hp
  by_cases e : st = 1
  · rw [if_pos e] at h
    repeat' (split at h)
    all_goals first | (cases h; done) | skip
    all_goals
      simp only [Option.some.injEq, Prod.mk.injEq] at h
      obtain ⟨rfl, _, _⟩ := h
      first | exact hp | exact Or.inr rfl
  rw [if_neg e] at h
  by_cases e : st = 14
  · rw [if_pos e] at h
    repeat' (split at h)
    all_goals first | (cases h; done) | skip
    all_goals
      simp only [Option.some.injEq, Prod.mk.injEq] at h
      obtain ⟨rfl, _, _⟩ := h
      first | exact hp | exact Or.inr rfl
  rw [if_neg e] at h
  by_cases e : st = 2
  · rw [if_pos e] at h
    repeat' (split at h)
    all_goals first | (cases h; done) | skip
    all_goals
      simp only [Option.some.injEq, Prod.mk.injEq] at h
      obtain ⟨rfl, _, _⟩ := h
      first | exact hp | exact Or.inr rfl
  rw [if_neg e] at h
  by_cases e : st = 3
  · rw [if_pos e] at h
    repeat' (split at h)
    all_goals first | (cases h; done) | skip
    all_goals
      simp only [Option.some.injEq, Prod.mk.injEq] at h
      obtain ⟨rfl, _, _⟩ := h
      first | exact hp | exact Or.inr rfl
  rw [if_neg e] at h
  by_cases e : st = 4
  · rw [if_pos e] at h
    repeat' (split at h)
    all_goals first | (cases h; done) | skip
    all_goals
      simp only [Option.some.injEq, Prod.mk.injEq] at h
      obtain ⟨rfl, _, _⟩ := h
      first | exact hp | exact Or.inr rfl
  rw [if_neg e] at h
  by_cases e : st = 5
  · rw [if_pos e] at h
    repeat' (split at h)
    all_goals first | (cases h; done) | skip
    all_goals
      simp only [Option.some.injEq, Prod.mk.injEq] at h
      obtain ⟨rfl, _, _⟩ := h
      first | exact hp | exact Or.inr rfl
  rw [if_neg e] at h
  by_cases e : st = 6
  · rw [if_pos e] at h
    repeat' (split at h)
    all_goals first | (cases h; done) | skip
    all_goals
      simp only [Option.some.injEq, Prod.mk.injEq] at h
      obtain ⟨rfl, _, _⟩ := h
      first | exact hp | exact Or.inr rfl
  rw [if_neg e] at h
  by_cases e : st = 7
  · rw [if_pos e] at h
    repeat' (split at h)
    all_goals first | (cases h; done) | skip
    all_goals
      simp only [Option.some.injEq, Prod.mk.injEq] at h
      obtain ⟨rfl, _, _⟩ := h
      first | exact hp | exact Or.inr rfl
  rw [if_neg e] at h
  by_cases e : st = 8
  · rw [if_pos e] at h
    repeat' (split at h)
    all_goals first | (cases h; done) | skip
    all_goals
      simp only [Option.some.injEq, Prod.mk.injEq] at h
      obtain ⟨rfl, _, _⟩ := h
      first | exact hp | exact Or.inr rfl
  rw [if_neg e] at h
  by_cases e : st = 9
  · rw [if_pos e] at h
    repeat' (split at h)
    all_goals first | (cases h; done) | skip
    all_goals
      simp only [Option.some.injEq, Prod.mk.injEq] at h
      obtain ⟨rfl, _, _⟩ := h
      first | exact hp | exact Or.inr rfl
  rw [if_neg e] at h
  by_cases e : st = 15
  · rw [if_pos e] at h
    repeat' (split at h)
    all_goals first | (cases h; done) | skip
    all_goals
      simp only [Option.some.injEq, Prod.mk.injEq] at h
      obtain ⟨rfl, _, _⟩ := h
      first | exact hp | exact Or.inr rfl
  rw [if_neg e] at h
  cases h
theorem runP_ty {b t th : Int} : ∀ (n : Nat) {p p' : GP} {W W' : List Int} {l l' : Bool}, runP (enterP b t th) n p W l = some (p', W', l') → p.ty = acqT ∨ p.ty = relT → p'.ty = acqT ∨ p'.ty = relT
  | 0, p, p', W, W', l, l', h, hp => by
    unfold runP at h
    split at h
    · cases h
    · cases h; exact hp
  | n + 1, p, p', W, W', l, l', h, hp => by
    unfold runP at h
    split at h
    · cases h
    split at h
    · cases h; exact hp
    split at h
    · rename_i q p1 W1 w1 hq
      exact runP_ty n h (enterP_ty hq hp)
    · cases h
theorem acqP_len {b t lk nd pc ot : Int} {W W' : List Int} {q : Int × Int × Bool} {w : Bool} (h : acqP b t lk nd pc ot W = some (q.1, q.2.1, q.2.2, W', w)) : W'.length = W.length := by
  unfold acqP at h
  repeat' (split at h)
  all_goals first | (cases h; done) | skip
  all_goals
    obtain ⟨x, hx, h⟩ := Option.map_eq_some_iff.1 h
    try split at h
    all_goals
      simp only [Prod.mk.injEq] at h
      obtain ⟨_, _, _, rfl, _⟩ := h
      simp
theorem relP_len {b t lk nd pc ot : Int} {W W' : List Int} {q : Int × Int × Bool} {w : Bool} (h : relP b t lk nd pc ot W = some (q.1, q.2.1, q.2.2, W', w)) : W'.length = W.length := by
  unfold relP at h
  repeat' (split at h)
  all_goals first | (cases h; done) | skip
  all_goals
    obtain ⟨x, hx, h⟩ := Option.map_eq_some_iff.1 h
    try split at h
    all_goals
      simp only [Prod.mk.injEq] at h
      obtain ⟨_, _, _, rfl, _⟩ := h
      simp
theorem enterP_len {b t th : Int} {p p' : GP} {W W' : List Int} {w : Bool} (h : enterP b t th p W = some (p', W', w)) : W'.length = W.length := by
  obtain ⟨st, ty, val, mu, x, pc, ot, en⟩ := p
  unfold enterP at h
  dsimp only at h
  by_cases e : st = 1
  · rw [if_pos e] at h
    repeat' (split at h)
    all_goals first | (cases h; done) | skip
    all_goals
      simp only [Option.some.injEq, Prod.mk.injEq] at h
      obtain ⟨_, rfl, _⟩ := h
      first
        | rfl
        | simp
        | exact acqP_len (q := (_, _, _)) (by assumption)
        | exact relP_len (q := (_, _, _)) (by assumption)
  rw [if_neg e] at h
  by_cases e : st = 14
  · rw [if_pos e] at h
    repeat' (split at h)
    all_goals first | (cases h; done) | skip
    all_goals
      simp only [Option.some.injEq, Prod.mk.injEq] at h
      obtain ⟨_, rfl, _⟩ := h
      first
        | rfl
        | simp
        | exact acqP_len (q := (_, _, _)) (by assumption)
        | exact relP_len (q := (_, _, _)) (by assumption)
  rw [if_neg e] at h
  by_cases e : st = 2
  · rw [if_pos e] at h
    repeat' (split at h)
    all_goals first | (cases h; done) | skip
    all_goals
      simp only [Option.some.injEq, Prod.mk.injEq] at h
      obtain ⟨_, rfl, _⟩ := h
      first
        | rfl
        | simp
        | exact acqP_len (q := (_, _, _)) (by assumption)
        | exact relP_len (q := (_, _, _)) (by assumption)
  rw [if_neg e] at h
  by_cases e : st = 3
  · rw [if_pos e] at h
    repeat' (split at h)
    all_goals first | (cases h; done) | skip
    all_goals
      simp only [Option.some.injEq, Prod.mk.injEq] at h
      obtain ⟨_, rfl, _⟩ := h
      first
        | rfl
        | simp
        | exact acqP_len (q := (_, _, _)) (by assumption)
        | exact relP_len (q := (_, _, _)) (by assumption)
  rw [if_neg e] at h
  by_cases e : st = 4
  · rw [if_pos e] at h
    repeat' (split at h)
    all_goals first | (cases h; done) | skip
    all_goals
      simp only [Option.some.injEq, Prod.mk.injEq] at h
      obtain ⟨_, rfl, _⟩ := h
      first
        | rfl
        | simp
        | exact acqP_len (q := (_, _, _)) (by assumption)
        | exact relP_len (q := (_, _, _)) (by assumption)
  rw [if_neg e] at h
  by_cases e : st = 5
  · rw [if_pos e] at h
    repeat' (split at h)
    all_goals first | (cases h; done) | skip
    all_goals
      simp only [Option.some.injEq, Prod.mk.injEq] at h
      obtain ⟨_, rfl, _⟩ := h
      first
        | rfl
        | simp
        | exact acqP_len (q := (_, _, _)) (by assumption)
        | exact relP_len (q := (_, _, _)) (by assumption)
  rw [if_neg e] at h
  by_cases e : st = 6
  · rw [if_pos e] at h
    repeat' (split at h)
    all_goals first | (cases h; done) | skip
    all_goals
      simp only [Option.some.injEq, Prod.mk.injEq] at h
      obtain ⟨_, rfl, _⟩ := h
      first
        | rfl
        | simp
        | exact acqP_len (q := (_, _, _)) (by assumption)
        | exact relP_len (q := (_, _, _)) (by assumption)
  rw [if_neg e] at h
  by_cases e : st = 7
  · rw [if_pos e] at h
    repeat' (split at h)
    all_goals first | (cases h; done) | skip
    all_goals
      simp only [Option.some.injEq, Prod.mk.injEq] at h
      obtain ⟨_, rfl, _⟩ := h
      first
        | rfl
        | simp
        | exact acqP_len (q := (_, _, _)) (by assumption)
        | exact relP_len (q := (_, _, _)) (by assumption)
  rw [if_neg e] at h
  by_cases e : st = 8
  · rw [if_pos e] at h
    repeat' (split at h)
    all_goals first | (cases h; done) | skip
    all_goals
      simp only [Option.some.injEq, Prod.mk.injEq] at h
      obtain ⟨_, rfl, _⟩ := h
      first
        | rfl
        | simp
        | exact acqP_len (q := (_, _, _)) (by assumption)
        | exact relP_len (q := (_, _, _)) (by assumption)
  rw [if_neg e] at h
  by_cases e : st = 9
  · rw [if_pos e] at h
    repeat' (split at h)
    all_goals first | (cases h; done) | skip
    all_goals
      simp only [Option.some.injEq, Prod.mk.injEq] at h
      obtain ⟨_, rfl, _⟩ := h
      first
        | rfl
        | simp
        | exact acqP_len (q := (_, _, _)) (by assumption)
        | exact relP_len (q := (_, _, _)) (by assumption)
  rw [if_neg e] at h
  by_cases e : st = 15
  · rw [if_pos e] at h
    repeat' (split at h)
    all_goals first | (cases h; done) | skip
    all_goals
      simp only [Option.some.injEq, Prod.mk.injEq] at h
      obtain ⟨_, rfl, _⟩ := h
      first
        | rfl
        | simp
        | exact acqP_len (q := (_, _, _)) (by assumption)
        | exact relP_len (q := (_, _, _)) (by assumption)
  rw [if_neg e] at h
  cases h
theorem leaveP_len {b t th : Int} {p p' : GP} {W W' : List Int} {w : Bool} (h : leaveP b t th p W = some (p', W', w)) : W'.length = W.length := by
  obtain ⟨st, ty, val, mu, x, pc, ot, en⟩ := p
  unfold leaveP at h
  dsimp only at h
  by_cases e : st = 1
  · rw [if_pos e] at h
    repeat' (split at h)
    all_goals first | (cases h; done) | skip
    all_goals
      simp only [Option.some.injEq, Prod.mk.injEq] at h
      obtain ⟨_, rfl, _⟩ := h
      first
        | rfl
        | simp
        | exact acqP_len (q := (_, _, _)) (by assumption)
        | exact relP_len (q := (_, _, _)) (by assumption)
  rw [if_neg e] at h
  by_cases e : st = 14
  · rw [if_pos e] at h
    repeat' (split at h)
    all_goals first | (cases h; done) | skip
    all_goals
      simp only [Option.some.injEq, Prod.mk.injEq] at h
      obtain ⟨_, rfl, _⟩ := h
      first
        | rfl
        | simp
        | exact acqP_len (q := (_, _, _)) (by assumption)
        | exact relP_len (q := (_, _, _)) (by assumption)
  rw [if_neg e] at h
  by_cases e : st = 3
  · rw [if_pos e] at h
    repeat' (split at h)
    all_goals first | (cases h; done) | skip
    all_goals
      simp only [Option.some.injEq, Prod.mk.injEq] at h
      obtain ⟨_, rfl, _⟩ := h
      first
        | rfl
        | simp
        | exact acqP_len (q := (_, _, _)) (by assumption)
        | exact relP_len (q := (_, _, _)) (by assumption)
  rw [if_neg e] at h
  by_cases e : st = 2
  · rw [if_pos e] at h
    repeat' (split at h)
    all_goals first | (cases h; done) | skip
    all_goals
      simp only [Option.some.injEq, Prod.mk.injEq] at h
      obtain ⟨_, rfl, _⟩ := h
      first
        | rfl
        | simp
        | exact acqP_len (q := (_, _, _)) (by assumption)
        | exact relP_len (q := (_, _, _)) (by assumption)
  rw [if_neg e] at h
  by_cases e : st = 4
  · rw [if_pos e] at h
    repeat' (split at h)
    all_goals first | (cases h; done) | skip
    all_goals
      simp only [Option.some.injEq, Prod.mk.injEq] at h
      obtain ⟨_, rfl, _⟩ := h
      first
        | rfl
        | simp
        | exact acqP_len (q := (_, _, _)) (by assumption)
        | exact relP_len (q := (_, _, _)) (by assumption)
  rw [if_neg e] at h
  by_cases e : st = 10
  · rw [if_pos e] at h
    repeat' (split at h)
    all_goals first | (cases h; done) | skip
    all_goals
      simp only [Option.some.injEq, Prod.mk.injEq] at h
      obtain ⟨_, rfl, _⟩ := h
      first
        | rfl
        | simp
        | exact acqP_len (q := (_, _, _)) (by assumption)
        | exact relP_len (q := (_, _, _)) (by assumption)
  rw [if_neg e] at h
  by_cases e : st = 11
  · rw [if_pos e] at h
    repeat' (split at h)
    all_goals first | (cases h; done) | skip
    all_goals
      simp only [Option.some.injEq, Prod.mk.injEq] at h
      obtain ⟨_, rfl, _⟩ := h
      first
        | rfl
        | simp
        | exact acqP_len (q := (_, _, _)) (by assumption)
        | exact relP_len (q := (_, _, _)) (by assumption)
  rw [if_neg e] at h
  by_cases e : st = 12
  · rw [if_pos e] at h
    repeat' (split at h)
    all_goals first | (cases h; done) | skip
    all_goals
      simp only [Option.some.injEq, Prod.mk.injEq] at h
      obtain ⟨_, rfl, _⟩ := h
      first
        | rfl
        | simp
        | exact acqP_len (q := (_, _, _)) (by assumption)
        | exact relP_len (q := (_, _, _)) (by assumption)
  rw [if_neg e] at h
  by_cases e : st = 13
  · rw [if_pos e] at h
    repeat' (split at h)
    all_goals first | (cases h; done) | skip
    all_goals
      simp only [Option.some.injEq, Prod.mk.injEq] at h
      obtain ⟨_, rfl, _⟩ := h
      first
        | rfl
        | simp
        | exact acqP_len (q := (_, _, _)) (by assumption)
        | exact relP_len (q := (_, _, _)) (by assumption)
  rw [if_neg e] at h
  cases h
theorem runP_len {f : GP → List Int → Option (GP × List Int × Bool)} (hf : ∀ {p p' : GP} {W W' : List Int} {w : Bool}, f p W = some (p', W', w) → W'.length = W.length) : ∀ (n : Nat) {p p' : GP} {W W' : List Int} {l l' : Bool}, runP f n p W l = some (p', W', l') → W'.length = W.length
  | 0, p, p', W, W', l, l', h => by
    unfold runP at h
    split at h
    · cases h
    · cases h; rfl
  | n + 1, p, p', W, W', l, l', h => by
    unfold runP at h
    split at h
    · cases h
    split at h
    · cases h; rfl
    split at h
    · rename_i q p1 W1 w1 hq
      rw [runP_len hf n h, hf hq]
    · cases h
/-- A copy of a program. -/
theorem copy_ok {O : Mo} {k ka kn : Nat} {b t th : Int} {p : GP} (h : Gn O k ka kn b t th p) (h0 : p.st ≠ 0) (hty : p.ty = acqT ∨ p.ty = relT) :
    ∃ O', enterCopyS [.ref 0 k 0] O = some (.iface 42 (.ref 0 (O.length + 1) 0), O') ∧ Ag O O' [] ∧ Gn O' (O.length + 1) O.length kn b t th p ∧ O'.length = O.length + 2 := by
  have hK := h.K
  have hA := h.A
  have hK1 := app_get (c := subB kn 12 (th * 2) p.pc p.ot p.en) h.K
  refine ⟨(O ++ [subB kn 12 (th * 2) p.pc p.ot p.en]) ++ [gtB kn (th * 2 + 1) p.st p.ty O.length p.val p.mu th p.x], ?_, (Ag.app _ _ _).trans (Ag.app _ _ _), ⟨(h.N.ag (Ag.app O [subB kn 12 (th * 2) p.pc p.ot p.en] []) (by simp)).ag (Ag.app _ [gtB kn (th * 2 + 1) p.st p.ty O.length p.val p.mu th p.x] []) (by simp), app_get (app_last _ _), ?_, h.h1, h.h2⟩, by simp⟩
  · unfold gtB at hK hK1
    unfold SubO subB at hA
    unfold subB at hK1 ⊢
    rcases hty with e | e
    · rw [e] at hK hK1 ⊢
      unfold acqT at hK hK1 ⊢
      simp only [enterCopyS, hK, if_neg h0, gcloneS, if_true, acqCopyS, hA, hK1, and_self, gtB]
      simp
    · have hne : ¬ (159 : Nat) = 156 := by decide
      rw [e] at hK hK1 ⊢
      unfold relT at hK hK1 ⊢
      simp only [enterCopyS, hK, if_neg h0, gcloneS, if_neg hne, if_true, relCopyS, hA, hK1, and_self, gtB]
      simp
  · simp

/-! Memories that have the same words -/
theorem eqG_true {O : Mo} {k k2 cn : Nat} {W : List Int} (h1 : O[k]? = some (.buf 1 (wds W))) (h2 : O[k2]? = some (.buf 1 (wds W))) (hn : W.length = cn) : ∀ (m : Nat) (i : Int), 0 ≤ i → i ≤ cn → cn < i + m → eqG k k2 cn m i O = some (.bool true, O)
  | 0, i, h0, h3, hm => by omega
  | m + 1, i, h0, h3, hm => by
    have a : (wds W).length = cn := by rw [wds_len, hn]
    by_cases hi : i < (cn : Int)
    · obtain ⟨x, hx⟩ := get_of_lt (W := W) (i := i.toNat) (by omega)
      simp only [eqG, h1, h2, if_pos a, if_pos hi, if_pos h0, wds_get, hx, Option.map_some, if_true]
      exact eqG_true h1 h2 hn m (i + 1) (by omega) (by omega) (by omega)
    · simp only [eqG, h1, h2, if_pos a, if_neg hi]
theorem memSame_ok {O : Mo} {a k b k2 : Nat} {W : List Int} (h1 : MemW O a k W) (h2 : MemW O b k2 W) (hl : W.length ≤ 70000) : memSameS [.ref 0 a 0, .ref 0 b 0] O = some (.bool true, O) := by
  have a1 : ¬ W.length = 0 := by have := h1.n; omega
  have e1 : zeroS [.ref 0 a 0] O = some (.bool false, O) := by simp only [zeroS, h1.memO, wds_len, a1, decide_false]
  have e2 : zeroS [.ref 0 b 0] O = some (.bool false, O) := by simp only [zeroS, h2.memO, wds_len, a1, decide_false]
  have e3 := eqG_true (k := k) (k2 := k2) (cn := W.length) h1.b h2.b rfl 70001 0 (by omega) (by omega) (by omega)
  simp only [memSameS, e1, e2, h1.m, h2.m, equalS, if_true, if_pos hl, e3]

/-! The gate's state, when nobody waits -/
theorem same_nil (O : Mo) : sameS [.nils, .nils] O = some (.bool true, O) := by
  simp [sameS, rdI_nils, sameG]
theorem look_none {O : Mo} {km kb : Nat} {W : List Int} {p t v : Int} (h : MemW O km kb W) (hp : 1 ≤ p ∧ p ≤ 511) (ht : 1 ≤ t ∧ t ≤ 17) (h13 : W[13]? = some v) (h14 : W[14]? = some 0) (v0 : 0 ≤ v ∧ v ≤ 1000) :
    looksS [.agg [.int .i64 p, .int .i64 t], .ref 0 km 0, .int .i64 v, .nils] O = some (.bool true, O ++ [.arr [.int .i64 (16 + 128 * p), .int .i64 t]]) := by
  have M1 : MemW (O ++ [.arr [.int .i64 (16 + 128 * p), .int .i64 t]]) km kb W := h.ag (Ag.app _ _ []) (by simp) (by simp)
  have e1 := do_load (w := 13) M1 (by omega) h13
  have e2 := do_load (w := 14) M1 (by omega) h14
  have t1 : 1 ≤ t ∧ t ≤ 64 := by omega
  unfold acc at e1 e2
  have c0 : ¬ (0 : Int) < 0 := by omega
  have el : lookS [.iface 26 (.ref 0 km 0), .agg [.int .i64 p, .int .i64 t]] O = some (.tup [.agg [.int .i64 v, .nils], .int .i64 0], O ++ [.arr [.int .i64 (16 + 128 * p), .int .i64 t]]) := by
    simp only [lookS, dnodes_ok O p t hp ht, if_true, loadS, acc, e1, e2, if_pos v0, if_pos t1, lookA, if_neg c0]
  simp only [looksS, el, if_true, rdI_nils, same_nil]

theorem gerrK_ok (O : Mo) : gerrK O = some (.bool true, O) := by simp only [gerrK, known31S]
theorem run31_enter {O O' : Mo} {k km : Nat} {most : Int} {r : AV} (hm : most ≤ 1000) (h : run31E k km most most.toNat 0 false O = some (r, O')) :
    run31S [.iface 42 (.ref 0 k 0), .ref 0 km 0, .int .i64 most] O = some (r, O') := by
  simp only [run31S, if_pos hm, if_true, h]
theorem run31_leave {O O' : Mo} {k km : Nat} {most : Int} {r : AV} (hm : most ≤ 1000) (h : run31L k km most most.toNat 0 false O = some (r, O')) :
    run31S [.iface 35 (.ref 0 k 0), .ref 0 km 0, .int .i64 most] O = some (r, O') := by
  have hne : ¬ (35 : Nat) = 42 := by decide
  simp only [run31S, if_pos hm, if_neg hne, if_true, h]
/-- A lock that is free, in an arena with an empty tree. -/
theorem fmt_wd {p t : Int} {W : List Int} (hp : 1 ≤ p ∧ p ≤ 511) (ht : 1 ≤ t ∧ t ≤ 17) (h : Wg W (16 + 128 * p + t * 2 * 3).toNat (fmtG p)) : Wd (16 + 128 * p) t W :=
  ⟨by omega, by rw [h.len]; omega, by rw [h.get 12 (by omega), fmtG_mid (by omega) (by omega)]⟩

theorem gerrA_ok {p t th mo af : Int} (hp : 1 ≤ p ∧ p ≤ 511) (ht : 1 ≤ t ∧ t ≤ 17) (m1 : 1 ≤ mo) (m2 : mo ≤ 64) (a0 : 0 ≤ af ∧ af ≤ 255) {O : Mo} {k ka kn : Nat} (hn : Gn O k ka kn (16 + 128 * p) t th (gp0 mo)) :
    ∃ O', gerrA p t th mo af k O = some (.bool true, O') := by
  unfold gerrA
  by_cases hp20 : 20 < p
  · exact ⟨O, by rw [if_pos hp20, gerrK_ok]⟩
  rw [if_neg hp20]
  obtain ⟨km, kb, O1, W, e1, M1, w1, G1, L1, L2⟩ := format_ok O p t hp ht
  have hlt := hn.lt
  have n1 := hn.ag G1 (by simp) (by simp) (by simp)
  have D := fmt_wd hp ht w1
  have h13 : W[13]? = some 0 := by rw [w1.get 13 (by omega), fmtG_mid (by omega) (by omega)]
  have h14 : W[14]? = some 0 := by rw [w1.get 14 (by omega), fmtG_mid (by omega) (by omega)]
  -- the run as a whole
  have R := enter_room (mo := mo) D hn.h1 hn.h2 h13 h14 (by omega) (by omega) (by omega) ((af % 20).toNat + 60 - 8) false
  rw [show (af % 20).toNat + 60 - 8 + 8 = (af % 20).toNat + 60 by omega] at R
  obtain ⟨p1, W1, l1, R1⟩ := runP_pre _ _ R
  rw [runP_add _ _ R1] at R
  obtain ⟨l3, R2⟩ := runP_last _ R false
  -- some steps
  obtain ⟨O2, ka2, e2, v2, g2⟩ := runE_ok (most := af % 20) _ 0 false O1 ka W W1 (gp0 mo) p1 l1 (by omega) (by omega) (n1.ge M1) R1
  have lt2 := g2.gn.lt
  have ltm := lt_of_get g2.M.m
  have ltb := lt_of_get g2.M.b
  -- the copy
  obtain ⟨O3, e3, G3, n3, L3⟩ := copy_ok g2.gn (runP_nz _ R1) (runP_ty _ R1 (Or.inl rfl))
  have g3 : Ge O3 km kb k ka2 kn W1 (16 + 128 * p) t th p1 := (g2.gn.ag G3 (by simp) (by simp) (by simp)).ge (g2.M.ag G3 (by simp) (by simp))
  have ed1 := done_enter (n3.ge g3.M) (runP_nz _ R1)
  have ed2 := done_enter g3 (runP_nz _ R1)
  have hW1 : W1.length = W.length := runP_len (fun h => enterP_len h) _ R1
  obtain ⟨O4, e4, M4, G4, L4⟩ := memcopy_ok g3.M (by rw [hW1, w1.len]; omega)
  have g4 : Ge O4 km kb k ka2 kn W1 (16 + 128 * p) t th p1 := (g3.gn.ag G4 (by simp) (by simp) (by simp)).ge (g3.M.ag G4 (by simp) (by simp))
  have n4 := n3.ag G4 (by simp) (by simp) (by simp)
  -- the program to its end
  obtain ⟨O5, ka5, e5, v5, g5⟩ := runE_ok (most := 60) 60 0 false O4 ka2 W1 _ p1 _ l3 (by omega) (by omega) g4 R2
  have ne1 : kn ≠ kb := ne_get g4.N.o g4.M.b (by simp)
  have ne2 : kn ≠ ka2 := ne_get g4.N.o g4.A (by simp [subB])
  have ne3 : kn ≠ k := ne_get g4.N.o g4.K (by simp [gtB])
  have c5 : Ge O5 (O3.length + 1) O3.length (O2.length + 1) O2.length kn W1 (16 + 128 * p) t th p1 :=
    (n4.ag v5.ag (by simp; omega) (by simp; omega) (by simp; omega)).ge (M4.ag v5.ag (by simp; omega) (by simp; omega))
  -- the copy to its end
  obtain ⟨O6, ka6, e6, v6, g6⟩ := runE_ok (most := 60) 60 0 false O5 O2.length W1 _ p1 _ l3 (by omega) (by omega) c5 R2
  have new5 := v5.new
  have le5 := v5.ag.1
  have d6 : Ge O6 km kb k ka5 kn _ (16 + 128 * p) t th _ := (g5.gn.ag v6.ag (by simp; omega) (by simp; omega) (by simp; omega)).ge (g5.M.ag v6.ag (by simp; omega) (by simp; omega))
  have hE : enterStepS [.ref 0 k 0, .iface 26 (.ref 0 km 0)] O6 = some (.tup [.bool false, .int .i64 17], O6) := by
    have hK := d6.K
    unfold gtB at hK
    simp only [enterStepS, hK, if_true]
  have b3 := D.b3
  have len := D.len
  have th0 := hn.h1
  have hs := memSame_ok d6.M g6.M (by simp [lockW_len, w1.len]; omega)
  have hl := look_none (p := p) (t := t) (v := 0 + 1) d6.M hp ht (by rw [List.getElem?_set_ne (by omega), List.getElem?_set_self (by rw [lockW_len]; omega)]) (by rw [List.getElem?_set_ne (by omega), List.getElem?_set_ne (by omega), lockW_ne (by omega) (by omega) (by omega)]; exact h14) (by omega)
  have q2 := run31_enter (most := af % 20) (by omega) e2
  have q5 := run31_enter (most := 60) (by omega) e5
  have q6 := run31_enter (most := 60) (by omega) e6
  refine ⟨O6 ++ [.arr [.int .i64 (16 + 128 * p), .int .i64 t]], ?_⟩
  rw [show (0 : Int) + 1 = 1 from rfl] at hl
  simp only [decide_true] at q5 q6
  simp only [e1, if_true, q2, e3, ed1, ed2, e4, gerrB, q5, q6, hE, hs, hl, gerrK_ok]
theorem gerrS_true (p t th mo af : Int) (a0 : 0 ≤ af ∧ af ≤ 255) : ∃ O', gerrS [.agg [.int .i64 p, .int .i64 t], .int .i64 th, .int .i64 mo, .int .u8 af] [] = some (.bool true, O') := by
  by_cases d : 1 ≤ p ∧ p ≤ 511 ∧ 1 ≤ t ∧ t ≤ 17
  · have eW : ∀ O, dWordsS [.agg [.int .i64 p, .int .i64 t]] O = some (.tup [.int .i64 (16 + 128 * p + t * 2 * 3), .int .i64 0], O) := by
      intro O
      have d1 : ¬ p < 1 := by omega
      have d2 : ¬ 511 < p := by omega
      have d3 : ¬ t < 1 := by omega
      have d4 : ¬ 17 < t := by omega
      simp only [dWordsS, dvalidS, if_neg d1, if_neg d2, if_neg d3, if_neg d4, if_pos d]
    by_cases dt : 0 ≤ th ∧ th < t
    · have c1 : ¬ th < 0 := by omega
      have c2 : ¬ t ≤ th := by omega
      by_cases dm : 1 ≤ mo ∧ mo ≤ 64
      · have c3 : ¬ mo < 1 := by omega
        have c4 : ¬ 64 < mo := by omega
        obtain ⟨O1, e1, G1, n1⟩ := newEnter_ok [] p t th mo ⟨d.1, d.2.1⟩ d.2.2 dt.1 dt.2 dm.1 dm.2
        obtain ⟨O2, e2, G2, n2⟩ := newLeave_ok O1 p t th ⟨d.1, d.2.1⟩ d.2.2 dt.1 dt.2
        obtain ⟨O3, e3⟩ := gerrA_ok ⟨d.1, d.2.1⟩ d.2.2 dm.1 dm.2 a0 (n1.ag G2 (by simp) (by simp) (by simp))
        exact ⟨O3, by simp only [gerrS, if_pos a0, e1, if_true, e2, eW, if_neg c1, if_neg c2, if_neg c3, if_neg c4, e3]⟩
      · obtain ⟨O1, e1⟩ := enter_bad [] p t th mo (by omega)
        obtain ⟨O2, e2, G2, n2⟩ := newLeave_ok O1 p t th ⟨d.1, d.2.1⟩ d.2.2 dt.1 dt.2
        refine ⟨O2, ?_⟩
        by_cases c3 : mo < 1
        · simp only [gerrS, if_pos a0, e1, if_true, e2, eW, if_neg c1, if_neg c2, if_pos c3, gerrK_ok]
        · have c4 : 64 < mo := by omega
          simp only [gerrS, if_pos a0, e1, if_true, e2, eW, if_neg c1, if_neg c2, if_neg c3, if_pos c4, gerrK_ok]
    · obtain ⟨O1, e1⟩ := enter_bad [] p t th mo (by omega)
      obtain ⟨O2, e2⟩ := leave_bad O1 p t th (by omega)
      refine ⟨O2, ?_⟩
      by_cases c1 : th < 0
      · simp only [gerrS, if_pos a0, e1, if_true, e2, eW, if_pos c1, gerrK_ok]
      · have c2 : t ≤ th := by omega
        simp only [gerrS, if_pos a0, e1, if_true, e2, eW, if_neg c1, if_pos c2, gerrK_ok]
  · have eW : ∀ O, dWordsS [.agg [.int .i64 p, .int .i64 t]] O = some (.tup [.int .i64 0, .int .i64 2], O) := by
      intro O
      by_cases d1 : p < 1
      · simp only [dWordsS, dvalidS, if_pos d1]
      by_cases d2 : 511 < p
      · simp only [dWordsS, dvalidS, if_neg d1, if_pos d2]
      by_cases d3 : t < 1
      · simp only [dWordsS, dvalidS, if_neg d1, if_neg d2, if_pos d3]
      by_cases d4 : 17 < t
      · simp only [dWordsS, dvalidS, if_neg d1, if_neg d2, if_neg d3, if_pos d4]
      omega
    obtain ⟨O1, e1⟩ := enter_bad [] p t th mo (by omega)
    obtain ⟨O2, e2⟩ := leave_bad O1 p t th (by omega)
    refine ⟨O2, ?_⟩
    have c0 : ¬ (2 : Int) = 0 := by omega
    simp only [gerrS, if_pos a0, e1, if_true, e2, eW, if_neg c0, gerrK_ok]
/-- The law. -/
theorem gateErrors_law (a0 a1 a2 a3 : List AV) (s0 : Shp (.cat (.int .i64) (.cat (.int .i64) .unit)) a0) (s1 : Shp (.int .i64) a1) (s2 : Shp (.int .i64) a2) (s3 : Shp (.int .u8) a3) :
    ∃ O' S', CallOk Tryz.prog 7 [parV (.cat (.int .i64) (.cat (.int .i64) .unit)) a0, parV (.int .i64) a1, parV (.int .i64) a2, parV (.int .u8) a3] [] [] (.bool true) O' S' := by
  obtain ⟨c1, c2, rfl, ⟨p, rfl, _⟩, ⟨c3, c4, rfl, ⟨t, rfl, _⟩, rfl⟩⟩ := s0
  obtain ⟨th, rfl, _⟩ := s1
  obtain ⟨mo, rfl, _⟩ := s2
  obtain ⟨af, rfl, w3⟩ := s3
  have b3 : 0 ≤ af ∧ af ≤ 255 := by simp [Lit.wf, IntKind.min, IntKind.max, IntKind.signed, IntKind.bits] at w3; omega
  obtain ⟨O', h⟩ := gerrS_true p t th mo af b3
  exact ⟨O', [], gerrS_ok _ [] _ _ h []⟩
end Den
