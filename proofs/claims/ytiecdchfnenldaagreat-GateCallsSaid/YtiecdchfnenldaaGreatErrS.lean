/- Contracts of the gate's state, and of what law 31 compares it with. -/
import Derived.Test.YtiecdchfnenldaaGreatSpecs
import Derived.Test.YtiecdchfnenldaaGreatKnownS
import Derived.Test.YtiecdchfnenldaaGreatDenG7
import Derived.Test.YtiecdchfnenldaaGreatAbsS
set_option maxRecDepth 100000
set_option maxHeartbeats 4000000
set_option linter.unusedSimpArgs false
set_option linter.unusedVariables false
namespace Den
open Go Go.Proofs

/-- Methods by their types. -/
theorem methM : cfgA.meth 26 "Load" = some 52 ∧ mok Tryz.prog 26 "Load" = true ∧ cfgA.meth 26 "Store" = some 48 ∧ mok Tryz.prog 26 "Store" = true := ⟨by kernel_rfl, by kernel_rfl, by kernel_rfl, by kernel_rfl⟩

/-- gate.Look: the loop 0 -/
def lookB (km kn : Nat) (p t v : Int) : Nat → Int → Int → Nat → Nat → Mo → Option (AV × Mo)
  | 0, rf, e, kq, cn, O => none
  | m + 1, rf, e, kq, cn, O =>
    if e = 0 then
      if 0 < rf then
        if (cn : Int) ≤ t then
          match nnodeS [.ref 0 kn 0, .int .u64 rf] O with
          | some (.tup [.int .i64 nd, .int .i64 f], Oa) =>
            match nownerS [.ref 0 kn 0, .int .i64 nd] Oa with
            | some (.tup [.int .i64 ow, .int .i64 g], Ob) =>
              if f = 0 then
                if g = 0 then
                  match bufI Ob kq with
                  | some l =>
                    if l.length = cn then
                      match nnextS [.ref 0 kn 0, .int .i64 nd] (Ob.set kq (.buf 1 (ints (l ++ [ow])))) with
                      | some (.int .i64 w, Oc) =>
                        match loadS [.ref 0 km 0, .int .i64 w] Oc with
                        | some (.tup [.int .u64 rf2, .int .i64 e2], Od) => lookB km kn p t v m rf2 e2 kq (cn + 1) Od
                        | _ => none
                      | _ => none
                    else none
                  | _ => none
                else none
              else none
            | _ => none
          | _ => none
        else none
      else if (cn : Int) ≤ t then some (.tup [.agg [.int .i64 v, .bref 0 kq 0 cn cn], .int .i64 0], O) else none
    else none
theorem lookB_loop {S : Ms} (km kn : Nat) (p t v : Int) (h0 : 1 ≤ t) (h1 : t ≤ 64) : ∀ (n : Nat) (rf e : Int) (kq cn : Nat) (O : Mo) (env : Env) (M : Nat) (r : AV) (O' : Mo) (h : lookB km kn p t v n rf e kq cn O = some (r, O')) (hM : n < M) (e0 : env 0 = .iface 26 (.ref 0 km 0)) (e1 : env 3 = .ref (S.length + 1) 0 0) (e2 : env 4 = .ref (S.length + 1) 1 0) (e3 : env 6 = .ref 0 kn 0) (e4 : env 7 = .int .i64 e) (e5 : env 9 = .ref (S.length + 1) 2 0) (e6 : env 10 = .int .u64 rf),
    W33x0 cfgA (tabC [(84, dNodesS), (52, loadS), (85, nnodeS), (86, nownerS), (76, nnextS)]) 100000 (loopN (exec cfgA (tabC [(84, dNodesS), (52, loadS), (85, nnodeS), (86, nownerS), (76, nnextS)]) 100000 B33x0) [] M ⟨leOf 106 env, O, S ++ [[ABlk.arr [.int .i64 p, .int .i64 t], ABlk.arr [.int .i64 0, .nils], ABlk.arr [.int .i64 v, .bref 0 kq 0 cn cn]]]⟩) = some (r, O', S) := by
  intro n
  induction n with
  | zero =>
    intro rf e kq cn O env M r O' h hM e0 e1 e2 e3 e4 e5 e6
    unfold lookB at h
    first | (cases h; done) | (dsimp only at h; cases h; done) | (split at h <;> first | (cases h; done) | (exfalso; omega))
  | succ n ih =>
    intro rf e kq cn O env M r O' h hM e0 e1 e2 e3 e4 e5 e6
    obtain ⟨M, rfl⟩ : ∃ M', M = M' + 1 := ⟨M - 1, by omega⟩
    unfold lookB at h
    repeat' (split at h)
    all_goals first | (cases h; done) | (dsimp only at h; cases h; done) | (exfalso; omega) | skip
    all_goals
      try dsimp only at h
      try simp only [acc, accZ, errA] at *
      first
        | (simp (disch := first | decide | omega | assumption | exact isS_of (by assumption) | exact ixok_of (by assumption) (by omega) | exact slOk_of (by assumption) | exact bufOk_of (by assumption) (by omega) | fail) only [loop_unf, loopK_N, loopK_E, loopK_R, RAs, RBs, RCs, RDs, REs, RFs, RGs, RHs, RIs, RJs, RKs, RLs, RRt, Nat.reduceLT, Nat.reduceEqDiff, Nat.reduceAdd, Nat.reduceSub, RXa, RXb, RXc, methR, methM, RSl, *]
           refine ih _ _ _ _ _ _ _ _ _ h (by omega) ?_ ?_ ?_ ?_ ?_ ?_ ?_
           all_goals simp (disch := first | decide | omega | assumption | exact isS_of (by assumption) | exact ixok_of (by assumption) (by omega) | exact slOk_of (by assumption) | exact bufOk_of (by assumption) (by omega) | fail) only [RAs, RBs, RCs, RDs, REs, RFs, RGs, RHs, RIs, RJs, RKs, RLs, RRt, Nat.reduceLT, Nat.reduceEqDiff, Nat.reduceAdd, Nat.reduceSub, RXa, RXb, RXc, methR, methM, RSl, *])
        | (simp only [Option.some.injEq, Prod.mk.injEq] at h
           obtain ⟨rfl, rfl⟩ := h
           simp (disch := first | decide | omega | assumption | exact isS_of (by assumption) | exact ixok_of (by assumption) (by omega) | exact slOk_of (by assumption) | exact bufOk_of (by assumption) (by omega) | fail) only [W33x0, loop_unf, loopK_N, loopK_E, loopK_R, RAs, RBs, RCs, RDs, REs, RFs, RGs, RHs, RIs, RJs, RKs, RLs, RRt, Nat.reduceLT, Nat.reduceEqDiff, Nat.reduceAdd, Nat.reduceSub, RXa, RXb, RXc, methR, methM, RSl, *])

/-- gate.Look: the loop 0 -/
def lookA (km kn : Nat) (p t v : Int) : Nat → Int → Int → Mo → Option (AV × Mo)
  | 0, rf, e, O => none
  | m + 1, rf, e, O =>
    if e = 0 then
      if 0 < rf then
        match nnodeS [.ref 0 kn 0, .int .u64 rf] O with
        | some (.tup [.int .i64 nd, .int .i64 f], Oa) =>
          match nownerS [.ref 0 kn 0, .int .i64 nd] Oa with
          | some (.tup [.int .i64 ow, .int .i64 g], Ob) =>
            if f = 0 then
              if g = 0 then
                match nnextS [.ref 0 kn 0, .int .i64 nd] (Ob ++ [.buf 1 (ints [ow])]) with
                | some (.int .i64 w, Oc) =>
                  match loadS [.ref 0 km 0, .int .i64 w] Oc with
                  | some (.tup [.int .u64 rf2, .int .i64 e2], Od) => lookB km kn p t v m rf2 e2 Ob.length 1 Od
                  | _ => none
                | _ => none
              else none
            else none
          | _ => none
        | _ => none
      else some (.tup [.agg [.int .i64 v, .nils], .int .i64 0], O)
    else none
theorem lookA_loop {S : Ms} (km kn : Nat) (p t v : Int) (h0 : 1 ≤ t) (h1 : t ≤ 64) : ∀ (n : Nat) (rf e : Int) (O : Mo) (env : Env) (M : Nat) (r : AV) (O' : Mo) (h : lookA km kn p t v n rf e O = some (r, O')) (hM : n < M) (e0 : env 0 = .iface 26 (.ref 0 km 0)) (e1 : env 3 = .ref (S.length + 1) 0 0) (e2 : env 4 = .ref (S.length + 1) 1 0) (e3 : env 6 = .ref 0 kn 0) (e4 : env 7 = .int .i64 e) (e5 : env 9 = .ref (S.length + 1) 2 0) (e6 : env 10 = .int .u64 rf),
    W33x0 cfgA (tabC [(84, dNodesS), (52, loadS), (85, nnodeS), (86, nownerS), (76, nnextS)]) 100000 (loopN (exec cfgA (tabC [(84, dNodesS), (52, loadS), (85, nnodeS), (86, nownerS), (76, nnextS)]) 100000 B33x0) [] M ⟨leOf 106 env, O, S ++ [[ABlk.arr [.int .i64 p, .int .i64 t], ABlk.arr [.int .i64 0, .nils], ABlk.arr [.int .i64 v, .nils]]]⟩) = some (r, O', S) := by
  intro n
  induction n with
  | zero =>
    intro rf e O env M r O' h hM e0 e1 e2 e3 e4 e5 e6
    unfold lookA at h
    first | (cases h; done) | (dsimp only at h; cases h; done) | (split at h <;> first | (cases h; done) | (exfalso; omega))
  | succ n ih =>
    intro rf e O env M r O' h hM e0 e1 e2 e3 e4 e5 e6
    obtain ⟨M, rfl⟩ : ∃ M', M = M' + 1 := ⟨M - 1, by omega⟩
    unfold lookA at h
    repeat' (split at h)
    all_goals first | (cases h; done) | (dsimp only at h; cases h; done) | (exfalso; omega) | skip
    all_goals
      try dsimp only at h
      try simp only [acc, accZ, errA] at *
      first
        | (simp (disch := first | decide | omega | assumption | exact isS_of (by assumption) | exact ixok_of (by assumption) (by omega) | exact slOk_of (by assumption) | exact bufOk_of (by assumption) (by omega) | fail) only [loop_unf, loopK_N, loopK_E, loopK_R, RAs, RBs, RCs, RDs, REs, RFs, RGs, RHs, RIs, RJs, RKs, RLs, RRt, Nat.reduceLT, Nat.reduceEqDiff, Nat.reduceAdd, Nat.reduceSub, RXa, RXb, RXc, methR, methM, RSl, *]
           refine ih _ _ _ _ _ _ _ h (by omega) ?_ ?_ ?_ ?_ ?_ ?_ ?_
           all_goals simp (disch := first | decide | omega | assumption | exact isS_of (by assumption) | exact ixok_of (by assumption) (by omega) | exact slOk_of (by assumption) | exact bufOk_of (by assumption) (by omega) | fail) only [RAs, RBs, RCs, RDs, REs, RFs, RGs, RHs, RIs, RJs, RKs, RLs, RRt, Nat.reduceLT, Nat.reduceEqDiff, Nat.reduceAdd, Nat.reduceSub, RXa, RXb, RXc, methR, methM, RSl, *])
        | (simp (disch := first | decide | omega | assumption | exact isS_of (by assumption) | exact ixok_of (by assumption) (by omega) | exact slOk_of (by assumption) | exact bufOk_of (by assumption) (by omega) | fail) only [loop_unf, loopK_N, loopK_E, loopK_R, RAs, RBs, RCs, RDs, REs, RFs, RGs, RHs, RIs, RJs, RKs, RLs, RRt, Nat.reduceLT, Nat.reduceEqDiff, Nat.reduceAdd, Nat.reduceSub, RXa, RXb, RXc, methR, methM, RSl, *]
           refine lookB_loop _ _ _ _ _ (by omega) (by omega) _ _ _ _ _ _ _ _ _ _ h (by omega) ?_ ?_ ?_ ?_ ?_ ?_ ?_
           all_goals simp (disch := first | decide | omega | assumption | exact isS_of (by assumption) | exact ixok_of (by assumption) (by omega) | exact slOk_of (by assumption) | exact bufOk_of (by assumption) (by omega) | fail) only [RAs, RBs, RCs, RDs, REs, RFs, RGs, RHs, RIs, RJs, RKs, RLs, RRt, Nat.reduceLT, Nat.reduceEqDiff, Nat.reduceAdd, Nat.reduceSub, RXa, RXb, RXc, methR, methM, RSl, *])
        | (simp only [Option.some.injEq, Prod.mk.injEq] at h
           obtain ⟨rfl, rfl⟩ := h
           simp (disch := first | decide | omega | assumption | exact isS_of (by assumption) | exact ixok_of (by assumption) (by omega) | exact slOk_of (by assumption) | exact bufOk_of (by assumption) (by omega) | fail) only [W33x0, loop_unf, loopK_N, loopK_E, loopK_R, RAs, RBs, RCs, RDs, REs, RFs, RGs, RHs, RIs, RJs, RKs, RLs, RRt, Nat.reduceLT, Nat.reduceEqDiff, Nat.reduceAdd, Nat.reduceSub, RXa, RXb, RXc, methR, methM, RSl, *])

/-- gate.Look -/
def lookS : Sp := fun args O =>
  match args with
  | [.iface t0 (.ref 0 km 0), .agg [.int .i64 p, .int .i64 t]] =>
    if t0 = 26 then
      match dNodesS [.agg [.int .i64 p, .int .i64 t]] O with
      | some (.tup [.ref 0 kn 0, .int .i64 e], Oa) =>
        if e = 0 then
          match loadS [.ref 0 km 0, .int .i64 13] Oa with
          | some (.tup [.int .u64 v, .int .i64 e1], Ob) =>
            if e1 = 0 then
              if 0 ≤ v ∧ v ≤ 1000 then
                match loadS [.ref 0 km 0, .int .i64 14] Ob with
                | some (.tup [.int .u64 rf, .int .i64 e2], Oc) => if 1 ≤ t ∧ t ≤ 64 then lookA km kn p t v 100 rf e2 Oc else none
                | _ => none
              else none
            else none
          | _ => none
        else none
      | _ => none
    else none
  | _ => none
theorem lookS_ok : SpOk Tryz.prog 33 lookS := by
  intro args O r O' h S
  unfold lookS at h
  repeat' (split at h)
  all_goals first | (cases h; done) | skip
  all_goals
    try simp only [acc, accZ, errA] at *
    first
      | (simp only [Option.some.injEq, Prod.mk.injEq] at h
         obtain ⟨rfl, rfl⟩ := h
         refine bodyA (tabC_cons dNodesS_ok (tabC_cons loadS_ok (tabC_cons nnodeS_ok (tabC_cons nownerS_ok (tabC_cons nnextS_ok (tabC_nil _)))))) (n := 100000) F33_code ?_
         simp (disch := first | decide | omega | assumption | exact isS_of (by assumption) | exact ixok_of (by assumption) (by omega) | exact slOk_of (by assumption) | exact bufOk_of (by assumption) (by omega) | fail) only [F33, RAs, RBs, RCs, RDs, REs, RFs, RGs, RHs, RIs, RJs, RKs, RLs, RRt, Nat.reduceLT, Nat.reduceEqDiff, Nat.reduceAdd, Nat.reduceSub, RXa, RXb, RXc, methR, methM, RSl, acc, accZ, errA, *])
      | (refine bodyA (tabC_cons dNodesS_ok (tabC_cons loadS_ok (tabC_cons nnodeS_ok (tabC_cons nownerS_ok (tabC_cons nnextS_ok (tabC_nil _)))))) (n := 100000) F33_code ?_
         simp (disch := first | decide | omega | assumption | exact isS_of (by assumption) | exact ixok_of (by assumption) (by omega) | exact slOk_of (by assumption) | exact bufOk_of (by assumption) (by omega) | fail) only [F33, RAs, RBs, RCs, RDs, REs, RFs, RGs, RHs, RIs, RJs, RKs, RLs, RRt, Nat.reduceLT, Nat.reduceEqDiff, Nat.reduceAdd, Nat.reduceSub, RXa, RXb, RXc, methR, methM, RSl, e_loop, acc, accZ, errA, *]
         refine (fin_skip _ _ _ _ _).trans ?_
         refine lookA_loop _ _ _ _ _ (by omega) (by omega) _ _ _ _ _ _ _ _ h (by omega) ?_ ?_ ?_ ?_ ?_ ?_ ?_
         all_goals simp (disch := first | decide | omega | assumption | exact isS_of (by assumption) | exact ixok_of (by assumption) (by omega) | exact slOk_of (by assumption) | exact bufOk_of (by assumption) (by omega) | fail) only [RAs, RBs, RCs, RDs, REs, RFs, RGs, RHs, RIs, RJs, RKs, RLs, RRt, Nat.reduceLT, Nat.reduceEqDiff, Nat.reduceAdd, Nat.reduceSub, RXa, RXb, RXc, methR, methM, RSl, *])

/-- ticketlineref31.Same: the loop 0 -/
def sameG (a b : AV) : Nat → Int → Mo → Option (AV × Mo)
  | 0, i, O => none
  | m + 1, i, O =>
    match rdI O a with
    | some l =>
      match rdI O b with
      | some r =>
        if l.length ≤ 1000 then
          if i < (l.length : Int) then
            if 0 ≤ i then
              if i < (r.length : Int) then
                match l[i.toNat]? with
                | some x =>
                  match r[i.toNat]? with
                  | some y => if x = y then sameG a b m (i + 1) O else some (.bool false, O)
                  | _ => none
                | _ => none
              else none
            else none
          else some (.bool true, O)
        else none
      | _ => none
    | _ => none
theorem sameG_loop {S : Ms} (a b : AV)  : ∀ (n : Nat) (i : Int) (O : Mo) (env : Env) (M : Nat) (r : AV) (O' : Mo) (h : sameG a b n i O = some (r, O')) (hM : n < M) (e0 : env 0 = a) (e1 : env 1 = b) (e2 : env 5 = .int .i64 i),
    W70x0 cfgA (tabC []) 100000 (loopN (exec cfgA (tabC []) 100000 B70x0) [] M ⟨leOf 26 env, O, S ++ [[]]⟩) = some (r, O', S) := by
  intro n
  induction n with
  | zero =>
    intro i O env M r O' h hM e0 e1 e2
    unfold sameG at h
    first | (cases h; done) | (dsimp only at h; cases h; done) | (split at h <;> first | (cases h; done) | (exfalso; omega))
  | succ n ih =>
    intro i O env M r O' h hM e0 e1 e2
    obtain ⟨M, rfl⟩ : ∃ M', M = M' + 1 := ⟨M - 1, by omega⟩
    unfold sameG at h
    repeat' (split at h)
    all_goals first | (cases h; done) | (dsimp only at h; cases h; done) | (exfalso; omega) | skip
    all_goals
      try dsimp only at h
      try simp only [acc, accZ, errA] at *
      first
        | (simp (disch := first | decide | omega | assumption | exact isS_of (by assumption) | exact ixok_of (by assumption) (by omega) | exact slOk_of (by assumption) | exact bufOk_of (by assumption) (by omega) | fail) only [loop_unf, loopK_N, loopK_E, loopK_R, RAs, RBs, RCs, RDs, REs, RFs, RGs, RHs, RIs, RJs, RKs, RLs, RRt, Nat.reduceLT, Nat.reduceEqDiff, Nat.reduceAdd, Nat.reduceSub, RXa, RXb, RXc, methR, methM, RSl, *]
           refine ih _ _ _ _ _ _ h (by omega) ?_ ?_ ?_
           all_goals simp (disch := first | decide | omega | assumption | exact isS_of (by assumption) | exact ixok_of (by assumption) (by omega) | exact slOk_of (by assumption) | exact bufOk_of (by assumption) (by omega) | fail) only [RAs, RBs, RCs, RDs, REs, RFs, RGs, RHs, RIs, RJs, RKs, RLs, RRt, Nat.reduceLT, Nat.reduceEqDiff, Nat.reduceAdd, Nat.reduceSub, RXa, RXb, RXc, methR, methM, RSl, *])
        | (simp only [Option.some.injEq, Prod.mk.injEq] at h
           obtain ⟨rfl, rfl⟩ := h
           simp (disch := first | decide | omega | assumption | exact isS_of (by assumption) | exact ixok_of (by assumption) (by omega) | exact slOk_of (by assumption) | exact bufOk_of (by assumption) (by omega) | fail) only [W70x0, loop_unf, loopK_N, loopK_E, loopK_R, RAs, RBs, RCs, RDs, REs, RFs, RGs, RHs, RIs, RJs, RKs, RLs, RRt, Nat.reduceLT, Nat.reduceEqDiff, Nat.reduceAdd, Nat.reduceSub, RXa, RXb, RXc, methR, methM, RSl, *])

attribute [local irreducible] sameG
/-- ticketlineref31.Same -/
def sameS : Sp := fun args O =>
  match args with
  | [a, b] =>
    match rdI O a with
    | some l =>
      match rdI O b with
      | some r =>
        if l.length ≤ 1000 then
          if (l.length : Int) = (r.length : Int) then sameG a b 1001 0 O
          else some (.bool false, O)
        else none
      | _ => none
    | _ => none
  | _ => none
theorem sameS_ok : SpOk Tryz.prog 70 sameS := by
  intro args O r O' h S
  unfold sameS at h
  repeat' (split at h)
  all_goals first | (cases h; done) | skip
  all_goals
    try simp only [acc, accZ, errA] at *
    first
      | (simp only [Option.some.injEq, Prod.mk.injEq] at h
         obtain ⟨rfl, rfl⟩ := h
         refine bodyA (tabC_nil _) (n := 100000) F70_code ?_
         simp (disch := first | decide | omega | assumption | exact isS_of (by assumption) | exact ixok_of (by assumption) (by omega) | exact slOk_of (by assumption) | exact bufOk_of (by assumption) (by omega) | fail) only [F70, RAs, RBs, RCs, RDs, REs, RFs, RGs, RHs, RIs, RJs, RKs, RLs, RRt, Nat.reduceLT, Nat.reduceEqDiff, Nat.reduceAdd, Nat.reduceSub, RXa, RXb, RXc, methR, methM, RSl, acc, accZ, errA, *])
      | (refine bodyA (tabC_nil _) (n := 100000) F70_code ?_
         simp (disch := first | decide | omega | assumption | exact isS_of (by assumption) | exact ixok_of (by assumption) (by omega) | exact slOk_of (by assumption) | exact bufOk_of (by assumption) (by omega) | fail) only [F70, RAs, RBs, RCs, RDs, REs, RFs, RGs, RHs, RIs, RJs, RKs, RLs, RRt, Nat.reduceLT, Nat.reduceEqDiff, Nat.reduceAdd, Nat.reduceSub, RXa, RXb, RXc, methR, methM, RSl, e_loop, acc, accZ, errA, *]
         refine (fin_skip _ _ _ _ _).trans ?_
         refine sameG_loop _ _ _ _ _ _ _ _ _ h (by omega) ?_ ?_ ?_
         all_goals simp (disch := first | decide | omega | assumption | exact isS_of (by assumption) | exact ixok_of (by assumption) (by omega) | exact slOk_of (by assumption) | exact bufOk_of (by assumption) (by omega) | fail) only [RAs, RBs, RCs, RDs, REs, RFs, RGs, RHs, RIs, RJs, RKs, RLs, RRt, Nat.reduceLT, Nat.reduceEqDiff, Nat.reduceAdd, Nat.reduceSub, RXa, RXb, RXc, methR, methM, RSl, *])

/-- ticketlinelaw31.looks -/
def looksS : Sp := fun args O =>
  match args with
  | [.agg [.int .i64 p, .int .i64 t], .ref 0 km 0, .int .i64 ins, q] =>
    match lookS [.iface 26 (.ref 0 km 0), .agg [.int .i64 p, .int .i64 t]] O with
    | some (.tup [.agg [.int .i64 v, w], .int .i64 e], Oa) =>
      if e = 0 then
        match rdI Oa w with
        | some _ =>
          match rdI Oa q with
          | some _ =>
            if v = ins then
              match sameS [w, q] Oa with
              | some (.bool b, Ob) => some (.bool b, Ob)
              | _ => none
            else some (.bool false, Oa)
          | _ => none
        | _ => none
      else none
    | _ => none
  | _ => none
theorem looksS_ok : SpOk Tryz.prog 23 looksS := by
  intro args O r O' h S
  unfold looksS at h
  repeat' (split at h)
  all_goals first | (cases h; done) | skip
  all_goals
    simp only [Option.some.injEq, Prod.mk.injEq] at h
    obtain ⟨rfl, rfl⟩ := h
    refine bodyA (tabC_cons lookS_ok (tabC_cons sameS_ok (tabC_nil _))) (n := 0) F23_code ?_
    try simp only [acc, accZ, errA] at *
    simp (disch := first | decide | omega | assumption | exact isS_of (by assumption) | exact ixok_of (by assumption) (by omega) | exact slOk_of (by assumption) | exact bufOk_of (by assumption) (by omega) | fail) only [F23, RAs, RBs, RCs, RDs, REs, RFs, RGs, RHs, RIs, RJs, RKs, RLs, RRt, Nat.reduceLT, Nat.reduceEqDiff, Nat.reduceAdd, Nat.reduceSub, RXa, RXb, RXc, methR, methM, RSl, acc, accZ, errA, *]

end Den

/- The gate's programs: their beginnings, copies, runs one behind the other. -/
set_option maxRecDepth 100000
set_option maxHeartbeats 1000000
set_option linter.unusedSimpArgs false
set_option linter.unusedVariables false
namespace Den
open Go Go.Proofs

/-- A program at its beginning. -/
structure Gn (O : Mo) (k ka kn : Nat) (b t th : Int) (p : GP) : Prop where
  N : NodesO O kn b t
  A : SubO O ka kn 12 (th * 2) p.pc p.ot p.en
  K : O[k]? = some (gtB kn (th * 2 + 1) p.st p.ty ka p.val p.mu th p.x)
  h1 : 0 ≤ th
  h2 : th < t
theorem Gn.ge {O : Mo} {km kb k ka kn : Nat} {W : List Int} {b t th : Int} {p : GP} (h : Gn O k ka kn b t th p) (m : MemW O km kb W) : Ge O km kb k ka kn W b t th p := ⟨m, h.N, h.A, h.K, h.h1, h.h2⟩
theorem Ge.gn {O : Mo} {km kb k ka kn : Nat} {W : List Int} {b t th : Int} {p : GP} (h : Ge O km kb k ka kn W b t th p) : Gn O k ka kn b t th p := ⟨h.N, h.A, h.K, h.h1, h.h2⟩
theorem Gn.ag {O O' : Mo} {k ka kn : Nat} {b t th : Int} {p : GP} {l : List Nat} (h : Gn O k ka kn b t th p) (g : Ag O O' l) (h1 : k ∉ l) (h2 : ka ∉ l) (h3 : kn ∉ l) : Gn O' k ka kn b t th p :=
  ⟨h.N.ag g h3, g.get h.A h2, g.get h.K h1, h.h1, h.h2⟩
theorem Gn.lt {O : Mo} {k ka kn : Nat} {b t th : Int} {p : GP} (h : Gn O k ka kn b t th p) : k < O.length ∧ ka < O.length ∧ kn < O.length := ⟨lt_of_get h.K, lt_of_get h.A, lt_of_get h.N.o⟩
/-- What gate.made makes. -/
theorem gmade_ok (O : Mo) (p t th : Int) (hp : 1 ≤ p ∧ p ≤ 511) (ht : 1 ≤ t ∧ t ≤ 17) (h1 : 0 ≤ th) (h2 : th < t) :
    gmadeS [.agg [.int .i64 p, .int .i64 t], .int .i64 th] O = some (.tup [.agg [.ref 0 O.length 0, .int .i64 (th * 2 + 1), .int .i64 1, .iface acqT (.ref 0 (O.length + 1) 0), .int .u64 0, .bool false], .int .i64 0],
      O ++ [.arr [.int .i64 (16 + 128 * p), .int .i64 t]] ++ [subB O.length 12 (th * 2) 1 0 false]) := by
  have N : NodesO (O ++ [.arr [.int .i64 (16 + 128 * p), .int .i64 t]]) O.length (16 + 128 * p) t := ⟨app_last _ _, by omega, by omega, by omega, by omega, by omega⟩
  have e1 := of_ok1 N h1 h2
  have e2 := of_ok N h1 h2
  have e3 := acq_ok (lk := 12) (nd := th * 2) N (by omega) (by omega) (by omega) (by omega)
  have c1 : ¬ th < 0 := by omega
  have c2 : ¬ t ≤ th := by omega
  simp only [gmadeS, dnodes_ok O p t hp ht, if_true, if_neg c1, if_neg c2, e1, e2, e3]
  simp [acqT]
theorem gmade_bad (O : Mo) (p t th : Int) (h : ¬ (1 ≤ p ∧ p ≤ 511 ∧ 1 ≤ t ∧ t ≤ 17 ∧ 0 ≤ th ∧ th < t)) :
    ∃ O', gmadeS [.agg [.int .i64 p, .int .i64 t], .int .i64 th] O = some (.tup [.agg [.nilp, .int .i64 0, .int .i64 0, .nili, .int .u64 0, .bool false], .int .i64 2], O') := by
  by_cases d : 1 ≤ p ∧ p ≤ 511 ∧ 1 ≤ t ∧ t ≤ 17
  · have e := dnodes_ok O p t ⟨d.1, d.2.1⟩ d.2.2
    by_cases c1 : th < 0
    · exact ⟨_, by simp only [gmadeS, e, if_true, if_pos c1]; rfl⟩
    · have c2 : t ≤ th := by omega
      exact ⟨_, by simp only [gmadeS, e, if_true, if_neg c1, if_pos c2]; rfl⟩
  · exact ⟨O, by simp only [gmadeS, dnodes_bad O p t d]; simp⟩
theorem new_gn {O : Mo} {p t th x : Int} (hp : 1 ≤ p ∧ p ≤ 511) (ht : 1 ≤ t ∧ t ≤ 17) (h1 : 0 ≤ th) (h2 : th < t) :
    Gn (O ++ [ABlk.arr [.int .i64 (16 + 128 * p), .int .i64 t]] ++ [subB O.length 12 (th * 2) 1 0 false] ++ [.arr [.ref 0 O.length 0, .int .i64 (th * 2 + 1), .int .i64 1, .iface acqT (.ref 0 (O.length + 1) 0), .int .u64 0, .bool false, .int .i64 th, .int .i64 x]])
      (O.length + 2) (O.length + 1) O.length (16 + 128 * p) t th (gp0 x) where
  N := ⟨app_get (app_get (app_last _ _)), by omega, by omega, by omega, by omega, by omega⟩
  A := by simp [SubO, gp0]
  K := by simp [gtB, gp0]
  h1 := h1
  h2 := h2
theorem newEnter_ok (O : Mo) (p t th mo : Int) (hp : 1 ≤ p ∧ p ≤ 511) (ht : 1 ≤ t ∧ t ≤ 17) (h1 : 0 ≤ th) (h2 : th < t) (m1 : 1 ≤ mo) (m2 : mo ≤ 64) :
    ∃ O', newEnterS [.agg [.int .i64 p, .int .i64 t], .int .i64 th, .int .i64 mo] O = some (.tup [.ref 0 (O.length + 2) 0, .int .i64 0], O') ∧ Ag O O' [] ∧ Gn O' (O.length + 2) (O.length + 1) O.length (16 + 128 * p) t th (gp0 mo) := by
  have c1 : ¬ mo < 1 := by omega
  have c2 : ¬ 64 < mo := by omega
  refine ⟨_, ?_, ((Ag.app _ _ _).trans (Ag.app _ _ _)).trans (Ag.app _ _ _), new_gn hp ht h1 h2⟩
  simp only [newEnterS, gmade_ok O p t th hp ht h1 h2, if_true, if_neg c1, if_neg c2]
  simp
theorem newLeave_ok (O : Mo) (p t th : Int) (hp : 1 ≤ p ∧ p ≤ 511) (ht : 1 ≤ t ∧ t ≤ 17) (h1 : 0 ≤ th) (h2 : th < t) :
    ∃ O', newLeaveS [.agg [.int .i64 p, .int .i64 t], .int .i64 th] O = some (.tup [.ref 0 (O.length + 2) 0, .int .i64 0], O') ∧ Ag O O' [] ∧ Gn O' (O.length + 2) (O.length + 1) O.length (16 + 128 * p) t th (gp0 0) := by
  refine ⟨_, ?_, ((Ag.app _ _ _).trans (Ag.app _ _ _)).trans (Ag.app _ _ _), new_gn hp ht h1 h2⟩
  simp only [newLeaveS, gmade_ok O p t th hp ht h1 h2, if_true]
  simp
theorem enter_bad (O : Mo) (p t th mo : Int) (h : ¬ (1 ≤ p ∧ p ≤ 511 ∧ 1 ≤ t ∧ t ≤ 17 ∧ 0 ≤ th ∧ th < t ∧ 1 ≤ mo ∧ mo ≤ 64)) :
    ∃ O', newEnterS [.agg [.int .i64 p, .int .i64 t], .int .i64 th, .int .i64 mo] O = some (.tup [.nilp, .int .i64 2], O') := by
  by_cases d : 1 ≤ p ∧ p ≤ 511 ∧ 1 ≤ t ∧ t ≤ 17 ∧ 0 ≤ th ∧ th < t
  · have e := gmade_ok O p t th ⟨d.1, d.2.1⟩ ⟨d.2.2.1, d.2.2.2.1⟩ d.2.2.2.2.1 d.2.2.2.2.2
    by_cases c1 : mo < 1
    · exact ⟨_, by simp only [newEnterS, e, if_true, if_pos c1]; rfl⟩
    · have c2 : 64 < mo := by omega
      exact ⟨_, by simp only [newEnterS, e, if_true, if_neg c1, if_pos c2]; rfl⟩
  · obtain ⟨O', e⟩ := gmade_bad O p t th d
    exact ⟨O', by simp only [newEnterS, e]; simp⟩
theorem leave_bad (O : Mo) (p t th : Int) (h : ¬ (1 ≤ p ∧ p ≤ 511 ∧ 1 ≤ t ∧ t ≤ 17 ∧ 0 ≤ th ∧ th < t)) :
    ∃ O', newLeaveS [.agg [.int .i64 p, .int .i64 t], .int .i64 th] O = some (.tup [.nilp, .int .i64 2], O') := by
  obtain ⟨O', e⟩ := gmade_bad O p t th h
  exact ⟨O', by simp only [newLeaveS, e]; simp⟩

/-! Runs, one behind the other -/
theorem runP_nz {f : GP → List Int → Option (GP × List Int × Bool)} : ∀ (n : Nat) {p p' : GP} {W W' : List Int} {l l' : Bool}, runP f n p W l = some (p', W', l') → p'.st ≠ 0
  | 0, p, p', W, W', l, l', h => by
    unfold runP at h
    split at h
    · cases h
    · rename_i hz; cases h; exact hz
  | n + 1, p, p', W, W', l, l', h => by
    unfold runP at h
    split at h
    · cases h
    split at h
    · rename_i hz h16; cases h; rw [h16]; omega
    split at h
    · exact runP_nz n h
    · cases h
theorem runP_add {f : GP → List Int → Option (GP × List Int × Bool)} (m : Nat) : ∀ (n : Nat) {p p' : GP} {W W' : List Int} {l l' : Bool}, runP f n p W l = some (p', W', l') → runP f (n + m) p W l = runP f m p' W' l'
  | 0, p, p', W, W', l, l', h => by
    unfold runP at h
    split at h
    · cases h
    · cases h; rw [Nat.zero_add]
  | n + 1, p, p', W, W', l, l', h => by
    rw [show n + 1 + m = (n + m) + 1 by omega]
    unfold runP at h
    split at h
    · cases h
    rename_i hz
    split at h
    · rename_i h16; cases h; rw [runP_end h16, runP_end h16]
    · rename_i h16
      split at h
      · rename_i q p1 W1 w1 hq
        rw [runP_step hz h16 hq]
        exact runP_add m n h
      · cases h
/-- As far as one has come, one may stop. -/
theorem runP_pre {f : GP → List Int → Option (GP × List Int × Bool)} : ∀ (n m : Nat) {p p' : GP} {W W' : List Int} {l l' : Bool}, runP f (n + m) p W l = some (p', W', l') → ∃ p1 W1 l1, runP f n p W l = some (p1, W1, l1)
  | 0, m, p, p', W, W', l, l', h => by
    by_cases hz : p.st = 0
    · exfalso
      rw [Nat.zero_add] at h
      cases m with
      | zero => simp [runP, hz] at h
      | succ m => simp [runP, hz] at h
    · exact ⟨p, W, l, by simp [runP, hz]⟩
  | n + 1, m, p, p', W, W', l, l', h => by
    rw [show n + 1 + m = (n + m) + 1 by omega] at h
    unfold runP at h ⊢
    split at h
    · cases h
    rename_i hz
    rw [if_neg hz]
    split at h
    · rename_i h16; rw [if_pos h16]; exact ⟨_, _, _, rfl⟩
    · rename_i h16
      rw [if_neg h16]
      split at h
      · exact runP_pre n m h
      · cases h
/-- What the last step was before does not matter, but for a run of no steps. -/
theorem runP_last {f : GP → List Int → Option (GP × List Int × Bool)} : ∀ (n : Nat) {p p' : GP} {W W' : List Int} {l l' : Bool}, runP f n p W l = some (p', W', l') → ∀ l2, ∃ l3, runP f n p W l2 = some (p', W', l3)
  | 0, p, p', W, W', l, l', h, l2 => by
    unfold runP at h ⊢
    split at h
    · cases h
    · rename_i hz; cases h; rw [if_neg hz]; exact ⟨_, rfl⟩
  | n + 1, p, p', W, W', l, l', h, l2 => by
    unfold runP at h ⊢
    split at h
    · cases h
    rename_i hz
    rw [if_neg hz]
    split at h
    · rename_i h16; cases h; rw [if_pos h16]; exact ⟨_, rfl⟩
    · rename_i h16
      rw [if_neg h16]
      split at h
      · exact ⟨_, h⟩
      · cases h
theorem enterP_ty {b t th : Int} {p p' : GP} {W W' : List Int} {w : Bool} (h : enterP b t th p W = some (p', W', w)) (hp : p.ty = acqT ∨ p.ty = relT) : p'.ty = acqT ∨ p'.ty = relT := by
  obtain ⟨st, ty, val, mu, x, pc, ot, en⟩ := p
  unfold enterP at h
  dsimp only at h hp
  by_cases e : st = 1
  · rw [if_pos e] at h
    repeat' (split at h)
    all_goals first | (cases h; done) | skip
    all_goals
      simp only [Option.some.injEq, Prod.mk.injEq] at h
      obtain ⟨rfl, _, _⟩ := h
      first | exact hp | exact Or.inr rfl
  rw [if_neg e] at h
  by_cases e : st = 14
  · rw [if_pos e] at h
    repeat' (split at h)
    all_goals first | (cases h; done) | skip
    all_goals
      simp only [Option.some.injEq, Prod.mk.injEq] at h
      obtain ⟨rfl, _, _⟩ := h
      first | exact hp | exact Or.inr rfl
  rw [if_neg e] at h
  by_cases e : st = 2
  · rw [if_pos e] at h
    repeat' (split at h)
    all_goals first | (cases h; done) | skip
    all_goals
      simp only [Option.some.injEq, Prod.mk.injEq] at h
      obtain ⟨rfl, _, _⟩ := h
      first | exact hp | exact Or.inr rfl
  rw [if_neg e] at h
  by_cases e : st = 3
  · rw [if_pos e] at h
    repeat' (split at h)
    all_goals first | (cases h; done) | skip
    all_goals
      simp only [Option.some.injEq, Prod.mk.injEq] at h
      obtain ⟨rfl, _, _⟩ := h
      first | exact hp | exact Or.inr rfl
  rw [if_neg e] at h
  by_cases e : st = 4
  · rw [if_pos e] at h
    repeat' (split at h)
    all_goals first | (cases h; done) | skip
    all_goals
      simp only [Option.some.injEq, Prod.mk.injEq] at h
      obtain ⟨rfl, _, _⟩ := h
      first | exact hp | exact Or.inr rfl
  rw [if_neg e] at h
  by_cases e : st = 5
  · rw [if_pos e] at h
    repeat' (split at h)
    all_goals first | (cases h; done) | skip
    all_goals
      simp only [Option.some.injEq, Prod.mk.injEq] at h
      obtain ⟨rfl, _, _⟩ := h
      first | exact hp | exact Or.inr rfl
  rw [if_neg e] at h
  by_cases e : st = 6
  · rw [if_pos e] at h
    repeat' (split at h)
    all_goals first | (cases h; done) | skip
    all_goals
      simp only [Option.some.injEq, Prod.mk.injEq] at h
      obtain ⟨rfl, _, _⟩ := h
      first | exact hp | exact Or.inr rfl
  rw [if_neg e] at h
  by_cases e : st = 7
  · rw [if_pos e] at h
    repeat' (split at h)
    all_goals first | (cases h; done) | skip
    all_goals
      simp only [Option.some.injEq, Prod.mk.injEq] at h
      obtain ⟨rfl, _, _⟩ := h
      first | exact hp | exact Or.inr rfl
  rw [if_neg e] at h
  by_cases e : st = 8
  · rw [if_pos e] at h
    repeat' (split at h)
    all_goals first | (cases h; done) | skip
    all_goals
      simp only [Option.some.injEq, Prod.mk.injEq] at h
      obtain ⟨rfl, _, _⟩ := h
      first | exact hp | exact Or.inr rfl
  rw [if_neg e] at h
  by_cases e : st = 9
  · rw [if_pos e] at h
    repeat' (split at h)
    all_goals first | (cases h; done) | skip
    all_goals
      simp only [Option.some.injEq, Prod.mk.injEq] at h
      obtain ⟨rfl, _, _⟩ := h
      first | exact hp | exact Or.inr rfl
  rw [if_neg e] at h
  by_cases e : st = 15
  · rw [if_pos e] at h
    repeat' (split at h)
    all_goals first | (cases h; done) | skip
    all_goals
      simp only [Option.some.injEq, Prod.mk.injEq] at h
      obtain ⟨rfl, _, _⟩ := h
      first | exact hp | exact Or.inr rfl
  rw [if_neg e] at h
  cases h
theorem runP_ty {b t th : Int} : ∀ (n : Nat) {p p' : GP} {W W' : List Int} {l l' : Bool}, runP (enterP b t th) n p W l = some (p', W', l') → p.ty = acqT ∨ p.ty = relT → p'.ty = acqT ∨ p'.ty = relT
  | 0, p, p', W, W', l, l', h, hp => by
    unfold runP at h
    split at h
    · cases h
    · cases h; exact hp
  | n + 1, p, p', W, W', l, l', h, hp => by
    unfold runP at h
    split at h
    · cases h
    split at h
    · cases h; exact hp
    split at h
    · rename_i q p1 W1 w1 hq
      exact runP_ty n h (enterP_ty hq hp)
    · cases h
theorem acqP_len {b t lk nd pc ot : Int} {W W' : List Int} {q : Int × Int × Bool} {w : Bool} (h : acqP b t lk nd pc ot W = some (q.1, q.2.1, q.2.2, W', w)) : W'.length = W.length := by
  unfold acqP at h
  repeat' (split at h)
  all_goals first | (cases h; done) | skip
  all_goals
    obtain ⟨x, hx, h⟩ := Option.map_eq_some_iff.1 h
    try split at h
    all_goals
      simp only [Prod.mk.injEq] at h
      obtain ⟨_, _, _, rfl, _⟩ := h
      simp
theorem relP_len {b t lk nd pc ot : Int} {W W' : List Int} {q : Int × Int × Bool} {w : Bool} (h : relP b t lk nd pc ot W = some (q.1, q.2.1, q.2.2, W', w)) : W'.length = W.length := by
  unfold relP at h
  repeat' (split at h)
  all_goals first | (cases h; done) | skip
  all_goals
    obtain ⟨x, hx, h⟩ := Option.map_eq_some_iff.1 h
    try split at h
    all_goals
      simp only [Prod.mk.injEq] at h
      obtain ⟨_, _, _, rfl, _⟩ := h
      simp
theorem enterP_len {b t th : Int} {p p' : GP} {W W' : List Int} {w : Bool} (h : enterP b t th p W = some (p', W', w)) : W'.length = W.length := by
  obtain ⟨st, ty, val, mu, x, pc, ot, en⟩ := p
  unfold enterP at h
  dsimp only at h
  by_cases e : st = 1
  · rw [if_pos e] at h
    repeat' (split at h)
    all_goals first | (cases h; done) | skip
    all_goals
      simp only [Option.some.injEq, Prod.mk.injEq] at h
      obtain ⟨_, rfl, _⟩ := h
      first
        | rfl
        | simp
        | exact acqP_len (q := (_, _, _)) (by assumption)
        | exact relP_len (q := (_, _, _)) (by assumption)
  rw [if_neg e] at h
  by_cases e : st = 14
  · rw [if_pos e] at h
    repeat' (split at h)
    all_goals first | (cases h; done) | skip
    all_goals
      simp only [Option.some.injEq, Prod.mk.injEq] at h
      obtain ⟨_, rfl, _⟩ := h
      first
        | rfl
        | simp
        | exact acqP_len (q := (_, _, _)) (by assumption)
        | exact relP_len (q := (_, _, _)) (by assumption)
  rw [if_neg e] at h
  by_cases e : st = 2
  · rw [if_pos e] at h
    repeat' (split at h)
    all_goals first | (cases h; done) | skip
    all_goals
      simp only [Option.some.injEq, Prod.mk.injEq] at h
      obtain ⟨_, rfl, _⟩ := h
      first
        | rfl
        | simp
        | exact acqP_len (q := (_, _, _)) (by assumption)
        | exact relP_len (q := (_, _, _)) (by assumption)
  rw [if_neg e] at h
  by_cases e : st = 3
  · rw [if_pos e] at h
    repeat' (split at h)
    all_goals first | (cases h; done) | skip
    all_goals
      simp only [Option.some.injEq, Prod.mk.injEq] at h
      obtain ⟨_, rfl, _⟩ := h
      first
        | rfl
        | simp
        | exact acqP_len (q := (_, _, _)) (by assumption)
        | exact relP_len (q := (_, _, _)) (by assumption)
  rw [if_neg e] at h
  by_cases e : st = 4
  · rw [if_pos e] at h
    repeat' (split at h)
    all_goals first | (cases h; done) | skip
    all_goals
      simp only [Option.some.injEq, Prod.mk.injEq] at h
      obtain ⟨_, rfl, _⟩ := h
      first
        | rfl
        | simp
        | exact acqP_len (q := (_, _, _)) (by assumption)
        | exact relP_len (q := (_, _, _)) (by assumption)
  rw [if_neg e] at h
  by_cases e : st = 5
  · rw [if_pos e] at h
    repeat' (split at h)
    all_goals first | (cases h; done) | skip
    all_goals
      simp only [Option.some.injEq, Prod.mk.injEq] at h
      obtain ⟨_, rfl, _⟩ := h
      first
        | rfl
        | simp
        | exact acqP_len (q := (_, _, _)) (by assumption)
        | exact relP_len (q := (_, _, _)) (by assumption)
  rw [if_neg e] at h
  by_cases e : st = 6
  · rw [if_pos e] at h
    repeat' (split at h)
    all_goals first | (cases h; done) | skip
    all_goals
      simp only [Option.some.injEq, Prod.mk.injEq] at h
      obtain ⟨_, rfl, _⟩ := h
      first
        | rfl
        | simp
        | exact acqP_len (q := (_, _, _)) (by assumption)
        | exact relP_len (q := (_, _, _)) (by assumption)
  rw [if_neg e] at h
  by_cases e : st = 7
  · rw [if_pos e] at h
    repeat' (split at h)
    all_goals first | (cases h; done) | skip
    all_goals
      simp only [Option.some.injEq, Prod.mk.injEq] at h
      obtain ⟨_, rfl, _⟩ := h
      first
        | rfl
        | simp
        | exact acqP_len (q := (_, _, _)) (by assumption)
        | exact relP_len (q := (_, _, _)) (by assumption)
  rw [if_neg e] at h
  by_cases e : st = 8
  · rw [if_pos e] at h
    repeat' (split at h)
    all_goals first | (cases h; done) | skip
    all_goals
      simp only [Option.some.injEq, Prod.mk.injEq] at h
      obtain ⟨_, rfl, _⟩ := h
      first
        | rfl
        | simp
        | exact acqP_len (q := (_, _, _)) (by assumption)
        | exact relP_len (q := (_, _, _)) (by assumption)
  rw [if_neg e] at h
  by_cases e : st = 9
  · rw [if_pos e] at h
    repeat' (split at h)
    all_goals first | (cases h; done) | skip
    all_goals
      simp only [Option.some.injEq, Prod.mk.injEq] at h
      obtain ⟨_, rfl, _⟩ := h
      first
        | rfl
        | simp
        | exact acqP_len (q := (_, _, _)) (by assumption)
        | exact relP_len (q := (_, _, _)) (by assumption)
  rw [if_neg e] at h
  by_cases e : st = 15
  · rw [if_pos e] at h
    repeat' (split at h)
    all_goals first | (cases h; done) | skip
    all_goals
      simp only [Option.some.injEq, Prod.mk.injEq] at h
      obtain ⟨_, rfl, _⟩ := h
      first
        | rfl
        | simp
        | exact acqP_len (q := (_, _, _)) (by assumption)
        | exact relP_len (q := (_, _, _)) (by assumption)
  rw [if_neg e] at h
  cases h
theorem leaveP_len {b t th : Int} {p p' : GP} {W W' : List Int} {w : Bool} (h : leaveP b t th p W = some (p', W', w)) : W'.length = W.length := by
  obtain ⟨st, ty, val, mu, x, pc, ot, en⟩ := p
  unfold leaveP at h
  dsimp only at h
  by_cases e : st = 1
  · rw [if_pos e] at h
    repeat' (split at h)
    all_goals first | (cases h; done) | skip
    all_goals
      simp only [Option.some.injEq, Prod.mk.injEq] at h
      obtain ⟨_, rfl, _⟩ := h
      first
        | rfl
        | simp
        | exact acqP_len (q := (_, _, _)) (by assumption)
        | exact relP_len (q := (_, _, _)) (by assumption)
  rw [if_neg e] at h
  by_cases e : st = 14
  · rw [if_pos e] at h
    repeat' (split at h)
    all_goals first | (cases h; done) | skip
    all_goals
      simp only [Option.some.injEq, Prod.mk.injEq] at h
      obtain ⟨_, rfl, _⟩ := h
      first
        | rfl
        | simp
        | exact acqP_len (q := (_, _, _)) (by assumption)
        | exact relP_len (q := (_, _, _)) (by assumption)
  rw [if_neg e] at h
  by_cases e : st = 3
  · rw [if_pos e] at h
    repeat' (split at h)
    all_goals first | (cases h; done) | skip
    all_goals
      simp only [Option.some.injEq, Prod.mk.injEq] at h
      obtain ⟨_, rfl, _⟩ := h
      first
        | rfl
        | simp
        | exact acqP_len (q := (_, _, _)) (by assumption)
        | exact relP_len (q := (_, _, _)) (by assumption)
  rw [if_neg e] at h
  by_cases e : st = 2
  · rw [if_pos e] at h
    repeat' (split at h)
    all_goals first | (cases h; done) | skip
    all_goals
      simp only [Option.some.injEq, Prod.mk.injEq] at h
      obtain ⟨_, rfl, _⟩ := h
      first
        | rfl
        | simp
        | exact acqP_len (q := (_, _, _)) (by assumption)
        | exact relP_len (q := (_, _, _)) (by assumption)
  rw [if_neg e] at h
  by_cases e : st = 4
  · rw [if_pos e] at h
    repeat' (split at h)
    all_goals first | (cases h; done) | skip
    all_goals
      simp only [Option.some.injEq, Prod.mk.injEq] at h
      obtain ⟨_, rfl, _⟩ := h
      first
        | rfl
        | simp
        | exact acqP_len (q := (_, _, _)) (by assumption)
        | exact relP_len (q := (_, _, _)) (by assumption)
  rw [if_neg e] at h
  by_cases e : st = 10
  · rw [if_pos e] at h
    repeat' (split at h)
    all_goals first | (cases h; done) | skip
    all_goals
      simp only [Option.some.injEq, Prod.mk.injEq] at h
      obtain ⟨_, rfl, _⟩ := h
      first
        | rfl
        | simp
        | exact acqP_len (q := (_, _, _)) (by assumption)
        | exact relP_len (q := (_, _, _)) (by assumption)
  rw [if_neg e] at h
  by_cases e : st = 11
  · rw [if_pos e] at h
    repeat' (split at h)
    all_goals first | (cases h; done) | skip
    all_goals
      simp only [Option.some.injEq, Prod.mk.injEq] at h
      obtain ⟨_, rfl, _⟩ := h
      first
        | rfl
        | simp
        | exact acqP_len (q := (_, _, _)) (by assumption)
        | exact relP_len (q := (_, _, _)) (by assumption)
  rw [if_neg e] at h
  by_cases e : st = 12
  · rw [if_pos e] at h
    repeat' (split at h)
    all_goals first | (cases h; done) | skip
    all_goals
      simp only [Option.some.injEq, Prod.mk.injEq] at h
      obtain ⟨_, rfl, _⟩ := h
      first
        | rfl
        | simp
        | exact acqP_len (q := (_, _, _)) (by assumption)
        | exact relP_len (q := (_, _, _)) (by assumption)
  rw [if_neg e] at h
  by_cases e : st = 13
  · rw [if_pos e] at h
    repeat' (split at h)
    all_goals first | (cases h; done) | skip
    all_goals
      simp only [Option.some.injEq, Prod.mk.injEq] at h
      obtain ⟨_, rfl, _⟩ := h
      first
        | rfl
        | simp
        | exact acqP_len (q := (_, _, _)) (by assumption)
        | exact relP_len (q := (_, _, _)) (by assumption)
  rw [if_neg e] at h
  cases h
theorem runP_len {f : GP → List Int → Option (GP × List Int × Bool)} (hf : ∀ {p p' : GP} {W W' : List Int} {w : Bool}, f p W = some (p', W', w) → W'.length = W.length) : ∀ (n : Nat) {p p' : GP} {W W' : List Int} {l l' : Bool}, runP f n p W l = some (p', W', l') → W'.length = W.length
  | 0, p, p', W, W', l, l', h => by
    unfold runP at h
    split at h
    · cases h
    · cases h; rfl
  | n + 1, p, p', W, W', l, l', h => by
    unfold runP at h
    split at h
    · cases h
    split at h
    · cases h; rfl
    split at h
    · rename_i q p1 W1 w1 hq
      rw [runP_len hf n h, hf hq]
    · cases h
/-- A copy of a program. -/
theorem copy_ok {O : Mo} {k ka kn : Nat} {b t th : Int} {p : GP} (h : Gn O k ka kn b t th p) (h0 : p.st ≠ 0) (hty : p.ty = acqT ∨ p.ty = relT) :
    ∃ O', enterCopyS [.ref 0 k 0] O = some (.iface 42 (.ref 0 (O.length + 1) 0), O') ∧ Ag O O' [] ∧ Gn O' (O.length + 1) O.length kn b t th p ∧ O'.length = O.length + 2 := by
  have hK := h.K
  have hA := h.A
  have hK1 := app_get (c := subB kn 12 (th * 2) p.pc p.ot p.en) h.K
  refine ⟨(O ++ [subB kn 12 (th * 2) p.pc p.ot p.en]) ++ [gtB kn (th * 2 + 1) p.st p.ty O.length p.val p.mu th p.x], ?_, (Ag.app _ _ _).trans (Ag.app _ _ _), ⟨(h.N.ag (Ag.app O [subB kn 12 (th * 2) p.pc p.ot p.en] []) (by simp)).ag (Ag.app _ [gtB kn (th * 2 + 1) p.st p.ty O.length p.val p.mu th p.x] []) (by simp), app_get (app_last _ _), ?_, h.h1, h.h2⟩, by simp⟩
  · unfold gtB at hK hK1
    unfold SubO subB at hA
    unfold subB at hK1 ⊢
    rcases hty with e | e
    · rw [e] at hK hK1 ⊢
      unfold acqT at hK hK1 ⊢
      simp only [enterCopyS, hK, if_neg h0, gcloneS, if_true, acqCopyS, hA, hK1, and_self, gtB]
      simp
    · have hne : ¬ (159 : Nat) = 156 := by decide
      rw [e] at hK hK1 ⊢
      unfold relT at hK hK1 ⊢
      simp only [enterCopyS, hK, if_neg h0, gcloneS, if_neg hne, if_true, relCopyS, hA, hK1, and_self, gtB]
      simp
  · simp

theorem run31_enter {O O' : Mo} {k km : Nat} {most : Int} {r : AV} (hm : most ≤ 1000) (h : run31E k km most most.toNat 0 false O = some (r, O')) :
    run31S [.iface 42 (.ref 0 k 0), .ref 0 km 0, .int .i64 most] O = some (r, O') := by
  simp only [run31S, if_pos hm, if_true, h]
theorem run31_leave {O O' : Mo} {k km : Nat} {most : Int} {r : AV} (hm : most ≤ 1000) (h : run31L k km most most.toNat 0 false O = some (r, O')) :
    run31S [.iface 35 (.ref 0 k 0), .ref 0 km 0, .int .i64 most] O = some (r, O') := by
  have hne : ¬ (35 : Nat) = 42 := by decide
  simp only [run31S, if_pos hm, if_neg hne, if_true, h]
/-- A lock that is free, in an arena with an empty tree. -/
theorem fmt_wd {p t : Int} {W : List Int} (hp : 1 ≤ p ∧ p ≤ 511) (ht : 1 ≤ t ∧ t ≤ 17) (h : Wg W (16 + 128 * p + t * 2 * 3).toNat (fmtG p)) : Wd (16 + 128 * p) t W :=
  ⟨by omega, by rw [h.len]; omega, by rw [h.get 12 (by omega), fmtG_mid (by omega) (by omega)]⟩

end Den

/- The gate's queue in the words, and what the programs that run alone do to it. -/
set_option maxRecDepth 100000
set_option maxHeartbeats 1000000
set_option linter.unusedSimpArgs false
set_option linter.unusedVariables false
namespace Den
open Go Go.Proofs

/-- The words of a thread's node that it waits with. -/
def nxA (b q : Int) : Nat := (b + (q * 2 + 1) * 3).toNat
def wtA (b q : Int) : Nat := (b + (q * 2 + 1) * 3 + 1).toNat
def rfA (q : Int) : Int := q * 2 + 1 + 1
def hdA : List Int → Int
  | [] => 0
  | q :: _ => rfA q
def lsA : List Int → Int
  | [] => 0
  | [q] => rfA q
  | _ :: q :: l => lsA (q :: l)
/-- The links. -/
def lnA (b : Int) (W : List Int) : List Int → Prop
  | [] => True
  | [q] => W[nxA b q]? = some 0
  | q :: r :: l => W[nxA b q]? = some (rfA r) ∧ lnA b W (r :: l)
structure GI (b t : Int) (W : List Int) (v : Int) (Q : List Int) : Prop where
  wd : Wd b t W
  ins : W[13]? = some v
  fst : W[14]? = some (hdA Q)
  lst : W[15]? = some (lsA Q)
  lnk : lnA b W Q
  wt : ∀ q ∈ Q, W[wtA b q]? = some 1
  nod : Q.Nodup
  rng : ∀ q ∈ Q, 0 ≤ q ∧ q < t
theorem lnA_cong {b : Int} {W W' : List Int} : ∀ {Q : List Int}, (∀ q ∈ Q, W'[nxA b q]? = W[nxA b q]?) → lnA b W Q → lnA b W' Q
  | [], _, _ => trivial
  | [q], h, g => by
    show W'[nxA b q]? = some 0
    rw [h q (by simp)]; exact g
  | q :: r :: l, h, g => ⟨by rw [h q (by simp)]; exact g.1, lnA_cong (fun x hx => h x (by simp [hx])) g.2⟩
theorem lsA_app (Q : List Int) (q : Int) : lsA (Q ++ [q]) = rfA q := by
  induction Q with
  | nil => rfl
  | cons a l ih =>
    cases l with
    | nil => rfl
    | cons c l => exact ih
theorem lsA_pos {Q : List Int} (h : Q ≠ []) (hr : ∀ q ∈ Q, 0 ≤ q) : ∃ q ∈ Q, lsA Q = rfA q := by
  induction Q with
  | nil => exact absurd rfl h
  | cons a l ih =>
    cases l with
    | nil => exact ⟨a, by simp, rfl⟩
    | cons c l =>
      obtain ⟨q, hq, e⟩ := ih (by simp) (fun x hx => hr x (by simp [hx]))
      exact ⟨q, by simp at hq ⊢; right; exact hq, e⟩
/-- One more behind the last. -/
theorem lnA_app {b : Int} {W W' : List Int} {p : Int} (hp : W'[nxA b p]? = some 0) : ∀ {Q : List Int}, Q ≠ [] → lnA b W Q → (∀ q ∈ Q, rfA q ≠ lsA Q → W'[nxA b q]? = W[nxA b q]?) → (∀ q ∈ Q, rfA q = lsA Q → W'[nxA b q]? = some (rfA p)) → Q.Nodup → lnA b W' (Q ++ [p])
  | [], h, _, _, _, _ => absurd rfl h
  | [q], _, g, h1, h2, _ => ⟨h2 q (by simp) rfl, hp⟩
  | q :: r :: l, _, g, h1, h2, hn => by
    have hls : lsA (q :: r :: l) = lsA (r :: l) := rfl
    have hq : rfA q ≠ lsA (r :: l) := by
      have aux : ∀ (l : List Int), l ≠ [] → ∃ x ∈ l, lsA l = rfA x := by
        intro l hl
        induction l with
        | nil => exact absurd rfl hl
        | cons a l ih =>
          cases l with
          | nil => exact ⟨a, by simp, rfl⟩
          | cons c l =>
            obtain ⟨q, hq, e⟩ := ih (by simp)
            exact ⟨q, by simp at hq ⊢; right; exact hq, e⟩
      obtain ⟨x, hx, e⟩ := aux (r :: l) (by simp)
      rw [e]
      intro he
      have : q = x := by unfold rfA at he; omega
      subst this
      exact (List.nodup_cons.1 hn).1 hx
    exact ⟨by rw [h1 q (by simp) (by rw [hls]; exact hq)]; exact g.1,
      lnA_app hp (Q := r :: l) (by simp) g.2 (fun x hx hne => h1 x (by simp at hx ⊢; right; exact hx) (by rw [hls]; exact hne)) (fun x hx he => h2 x (by simp at hx ⊢; right; exact hx) (by rw [hls]; exact he)) (List.nodup_cons.1 hn).2⟩
section
variable {b t : Int} {W : List Int} {v th mo : Int} {Q : List Int}
theorem GI.hd (h : GI b t W v []) : W[14]? = some 0 := h.fst
/-- The words of the lock's plain nodes, and those of the gate, do not matter to the queue. -/
theorem gi_mono {W' : List Int} (h : GI b t W v Q) (hl : W'.length = W.length) (h12 : W'[12]? = some 0) {v' : Int} (h13 : W'[13]? = some v') (h14 : W'[14]? = W[14]?) (h15 : W'[15]? = W[15]?)
    (hq : ∀ q ∈ Q, W'[nxA b q]? = W[nxA b q]? ∧ W'[wtA b q]? = W[wtA b q]?) : GI b t W' v' Q where
  wd := ⟨h.wd.b3, by rw [hl]; exact h.wd.len, h12⟩
  ins := h13
  fst := by rw [h14]; exact h.fst
  lst := by rw [h15]; exact h.lst
  lnk := lnA_cong (fun q hx => (hq q hx).1) h.lnk
  wt q hx := by rw [(hq q hx).2]; exact h.wt q hx
  nod := h.nod
  rng := h.rng
theorem gi_room (h : GI b t W v []) (h1 : 0 ≤ th) (h2 : th < t) : GI b t (((lockW b th W).set 13 (v + 1)).set 12 0) (v + 1) [] := by
  have b3 := h.wd.b3; have len := h.wd.len
  refine gi_mono h (by simp [lockW_len]) (by rw [List.getElem?_set_self (by simp [lockW_len]; omega)]) (by rw [List.getElem?_set_ne (by omega), List.getElem?_set_self (by rw [lockW_len]; omega)])
    (by rw [List.getElem?_set_ne (by omega), List.getElem?_set_ne (by omega), lockW_ne (by omega) (by omega) (by omega)])
    (by rw [List.getElem?_set_ne (by omega), List.getElem?_set_ne (by omega), lockW_ne (by omega) (by omega) (by omega)]) (fun q hq => by simp at hq)
theorem gi_out (h : GI b t W v []) (h1 : 0 ≤ th) (h2 : th < t) : GI b t (((lockW b th W).set 13 (v - 1)).set 12 0) (v - 1) [] := by
  have b3 := h.wd.b3; have len := h.wd.len
  refine gi_mono h (by simp [lockW_len]) (by rw [List.getElem?_set_self (by simp [lockW_len]; omega)]) (by rw [List.getElem?_set_ne (by omega), List.getElem?_set_self (by rw [lockW_len]; omega)])
    (by rw [List.getElem?_set_ne (by omega), List.getElem?_set_ne (by omega), lockW_ne (by omega) (by omega) (by omega)])
    (by rw [List.getElem?_set_ne (by omega), List.getElem?_set_ne (by omega), lockW_ne (by omega) (by omega) (by omega)]) (fun q hq => by simp at hq)
/-- Where the one who comes puts its link. -/
def lkA (b : Int) (Q : List Int) : Int := if 0 < lsA Q then b + (lsA Q - 1) * 3 else 14
theorem lsA_rng (h : GI b t W v Q) (ht : 0 ≤ t) : 0 ≤ lsA Q ∧ lsA Q ≤ t * 2 ∧ (Q ≠ [] → ∃ q ∈ Q, lsA Q = rfA q ∧ 0 ≤ q ∧ q < t) ∧ (Q = [] → lsA Q = 0) := by
  by_cases hq : Q = []
  · subst hq
    exact ⟨by simp [lsA], by simp only [lsA]; omega, fun h => absurd rfl h, fun _ => rfl⟩
  · obtain ⟨q, hq', e⟩ := lsA_pos hq (fun x hx => (h.rng x hx).1)
    have r := h.rng q hq'
    unfold rfA at e
    exact ⟨by omega, by omega, fun _ => ⟨q, hq', by unfold rfA; exact e, r.1, r.2⟩, fun h => absurd h hq⟩
theorem gi_queue (h : GI b t W v Q) (h1 : 0 ≤ th) (h2 : th < t) (hn : th ∉ Q) : GI b t (queueW b th (lkA b Q) W) v (Q ++ [th]) := by
  have b3 := h.wd.b3; have len := h.wd.len
  have ll := lockW_len b th W
  obtain ⟨l0, l1, l2, l3⟩ := lsA_rng h (by omega)
  have lk : 12 < (lkA b Q).toNat ∧ (lkA b Q).toNat ≠ 13 ∧ (lkA b Q).toNat ≠ 15 ∧ (lkA b Q).toNat < W.length ∧ (Q = [] → (lkA b Q).toNat = 14) ∧ (Q ≠ [] → (lkA b Q).toNat ≠ 14 ∧ (lkA b Q).toNat = (b + (lsA Q - 1) * 3).toNat ∧ 0 < lsA Q) := by
    unfold lkA
    by_cases hq : Q = []
    · have := l3 hq
      rw [if_neg (by omega)]
      refine ⟨by omega, by omega, by omega, by omega, fun _ => rfl, fun h => absurd hq h⟩
    · obtain ⟨q, _, e, r1, r2⟩ := l2 hq
      unfold rfA at e
      rw [if_pos (by omega)]
      refine ⟨by omega, by omega, by omega, by omega, fun h => absurd h hq, fun _ => ⟨by omega, rfl, by omega⟩⟩
  have hmem : ∀ q ∈ Q, q ≠ th := fun q hq e => hn (e ▸ hq)
  have len' : (queueW b th (lkA b Q) W).length = W.length := by simp [queueW, ll]
  have g : ∀ i, i ≠ 12 → i ≠ 15 → i ≠ (lkA b Q).toNat → i ≠ (b + (th * 2 + 1) * 3).toNat → i ≠ (b + (th * 2 + 1) * 3 + 1).toNat → i ≠ (b + th * 2 * 3).toNat → i ≠ (b + th * 2 * 3 + 1).toNat → (queueW b th (lkA b Q) W)[i]? = W[i]? := by
    intro i a1 a2 a3 a4 a5 a6 a7
    unfold queueW
    rw [List.getElem?_set_ne a1.symm, List.getElem?_set_ne a2.symm, List.getElem?_set_ne a3.symm, List.getElem?_set_ne a4.symm, List.getElem?_set_ne a5.symm, lockW_ne a6 a7 a1]
  have gl : (queueW b th (lkA b Q) W)[(lkA b Q).toNat]? = some (th * 2 + 1 + 1) := by
    unfold queueW
    rw [List.getElem?_set_ne (by omega), List.getElem?_set_ne (by omega), List.getElem?_set_self (by simp [ll]; omega)]
  have gnx : (queueW b th (lkA b Q) W)[nxA b th]? = some 0 := by
    have : nxA b th ≠ (lkA b Q).toNat := by
      by_cases hq : Q = []
      · have := lk.2.2.2.2.1 hq; unfold nxA; omega
      · obtain ⟨q, hq', e, r1, r2⟩ := l2 hq
        have := (lk.2.2.2.2.2 hq).2.1
        have := hmem q hq'
        unfold rfA at e; unfold nxA; omega
    unfold nxA at this ⊢
    unfold queueW
    rw [List.getElem?_set_ne (by omega), List.getElem?_set_ne (by omega), List.getElem?_set_ne (by omega), List.getElem?_set_self (by simp [ll]; omega)]
  have gwt : (queueW b th (lkA b Q) W)[wtA b th]? = some 1 := by
    have : wtA b th ≠ (lkA b Q).toNat := by
      by_cases hq : Q = []
      · have := lk.2.2.2.2.1 hq; unfold wtA; omega
      · obtain ⟨q, hq', e, r1, r2⟩ := l2 hq
        have := (lk.2.2.2.2.2 hq).2.1
        unfold rfA at e; unfold wtA; omega
    unfold wtA at this ⊢
    unfold queueW
    rw [List.getElem?_set_ne (by omega), List.getElem?_set_ne (by omega), List.getElem?_set_ne (by omega), List.getElem?_set_ne (by omega), List.getElem?_set_self (by simp [ll]; omega)]
  have gq : ∀ q ∈ Q, (rfA q ≠ lsA Q → (queueW b th (lkA b Q) W)[nxA b q]? = W[nxA b q]?) ∧ (rfA q = lsA Q → (queueW b th (lkA b Q) W)[nxA b q]? = some (rfA th)) ∧ (queueW b th (lkA b Q) W)[wtA b q]? = W[wtA b q]? := by
    intro q hq
    have r := h.rng q hq
    have ne := hmem q hq
    have hne : Q ≠ [] := fun e => by rw [e] at hq; simp at hq
    obtain ⟨_, e2, e3⟩ := lk.2.2.2.2.2 hne
    refine ⟨fun he => ?_, fun he => ?_, ?_⟩
    · unfold rfA at he; unfold nxA
      exact g _ (by omega) (by omega) (by omega) (by omega) (by omega) (by omega) (by omega)
    · have : nxA b q = (lkA b Q).toNat := by rw [e2, ← he]; unfold rfA nxA; congr 2; omega
      rw [this, gl]; rfl
    · unfold wtA
      obtain ⟨q', _, e', r1, r2⟩ := l2 hne
      unfold rfA at e'
      exact g _ (by omega) (by omega) (by omega) (by omega) (by omega) (by omega) (by omega)
  refine ⟨⟨b3, by rw [len']; exact len, ?_⟩, ?_, ?_, ?_, ?_, ?_, ?_, ?_⟩
  · unfold queueW; rw [List.getElem?_set_self (by simp [ll]; omega)]
  · rw [g 13 (by omega) (by omega) (by omega) (by omega) (by omega) (by omega) (by omega)]; exact h.ins
  · by_cases hq : Q = []
    · have := lk.2.2.2.2.1 hq
      rw [this] at gl
      rw [gl, hq]; rfl
    · have := (lk.2.2.2.2.2 hq).1
      rw [g 14 (by omega) (by omega) (by omega) (by omega) (by omega) (by omega) (by omega), h.fst]
      cases Q with
      | nil => exact absurd rfl hq
      | cons a l => rfl
  · rw [lsA_app]
    unfold queueW
    rw [List.getElem?_set_ne (by omega), List.getElem?_set_self (by simp [ll]; omega)]; rfl
  · by_cases hq : Q = []
    · subst hq; exact gnx
    · exact lnA_app gnx hq h.lnk (fun q hq he => (gq q hq).1 he) (fun q hq he => (gq q hq).2.1 he) h.nod
  · intro q hq
    simp only [List.mem_append, List.mem_singleton] at hq
    rcases hq with hq | rfl
    · rw [(gq q hq).2.2]; exact h.wt q hq
    · exact gwt
  · rw [List.nodup_append]
    refine ⟨h.nod, by simp, ?_⟩
    intro a ha c hc
    simp at hc
    subst hc
    exact hmem a ha
  · intro q hq
    simp only [List.mem_append, List.mem_singleton] at hq
    rcases hq with hq | rfl
    · exact h.rng q hq
    · exact ⟨h1, h2⟩
theorem hd_link {q : Int} (h : GI b t W v (q :: Q)) : W[nxA b q]? = some (hdA Q) := by
  have := h.lnk
  cases Q with
  | nil => exact this
  | cons r l => exact this.1
theorem hdA_nz {q : Int} (h : GI b t W v (q :: Q)) : (hdA Q = 0 ↔ Q = []) := by
  cases Q with
  | nil => simp [hdA]
  | cons r l =>
    have := (h.rng r (by simp)).1
    simp only [hdA, rfA]
    constructor
    · intro e; omega
    · intro e; cases e
theorem gi_next {q : Int} (h : GI b t W v (q :: Q)) (h1 : 0 ≤ th) (h2 : th < t) : GI b t (nextW b th (rfA q) (hdA Q) W) v Q ∧ (nextW b th (rfA q) (hdA Q) W)[wtA b q]? = some 0 := by
  have b3 := h.wd.b3; have len := h.wd.len
  have ll := lockW_len b th W
  have rq := h.rng q (by simp)
  have len' : (nextW b th (rfA q) (hdA Q) W).length = W.length := by unfold nextW; split <;> simp [ll]
  have g : ∀ i, i ≠ 12 → i ≠ 14 → i ≠ 15 → i ≠ (b + (rfA q - 1) * 3 + 1).toNat → i ≠ (b + th * 2 * 3).toNat → i ≠ (b + th * 2 * 3 + 1).toNat → (nextW b th (rfA q) (hdA Q) W)[i]? = W[i]? := by
    intro i a1 a2 a3 a4 a5 a6
    unfold nextW
    rw [List.getElem?_set_ne a1.symm, List.getElem?_set_ne a4.symm]
    split
    · rw [List.getElem?_set_ne a3.symm, List.getElem?_set_ne a2.symm, lockW_ne a5 a6 a1]
    · rw [List.getElem?_set_ne a2.symm, lockW_ne a5 a6 a1]
  have hnd := List.nodup_cons.1 h.nod
  refine ⟨⟨⟨b3, by rw [len']; exact len, ?_⟩, ?_, ?_, ?_, ?_, ?_, hnd.2, fun x hx => h.rng x (by simp [hx])⟩, ?_⟩
  · unfold nextW; rw [List.getElem?_set_self (by rw [List.length_set]; split <;> simp [ll] <;> omega)]
  · unfold rfA at g ⊢
    rw [g 13 (by omega) (by omega) (by omega) (by omega) (by omega) (by omega)]; exact h.ins
  · unfold nextW rfA
    rw [List.getElem?_set_ne (by omega), List.getElem?_set_ne (by omega)]
    split
    · rename_i e; rw [List.getElem?_set_ne (by omega), List.getElem?_set_self (by rw [ll]; omega), e]
    · rw [List.getElem?_set_self (by rw [ll]; omega)]
  · unfold nextW rfA
    rw [List.getElem?_set_ne (by omega), List.getElem?_set_ne (by omega)]
    split
    · rename_i e
      rw [(hdA_nz h).1 e, List.getElem?_set_self (by simp [ll]; omega)]; rfl
    · rename_i e
      have hq : Q ≠ [] := fun hh => e ((hdA_nz h).2 hh)
      rw [List.getElem?_set_ne (by omega), lockW_ne (by omega) (by omega) (by omega), h.lst]
      cases Q with
      | nil => exact absurd rfl hq
      | cons r l => rfl
  · refine lnA_cong (fun x hx => ?_) (show lnA b W Q from ?_)
    · have r := h.rng x (by simp [hx])
      unfold nxA
      unfold rfA at g ⊢
      exact g _ (by omega) (by omega) (by omega) (by omega) (by omega) (by omega)
    · have := h.lnk
      cases Q with
      | nil => trivial
      | cons r l => exact this.2
  · intro x hx
    have r := h.rng x (by simp [hx])
    have ne : x ≠ q := fun e => hnd.1 (e ▸ hx)
    have := h.wt x (by simp [hx])
    unfold wtA at this ⊢
    unfold rfA at g ⊢
    rw [g _ (by omega) (by omega) (by omega) (by omega) (by omega) (by omega)]; exact this
  · unfold nextW rfA wtA
    rw [List.getElem?_set_ne (by omega), show b + (q * 2 + 1 + 1 - 1) * 3 + 1 = b + (q * 2 + 1) * 3 + 1 by omega, List.getElem?_set_self (by split <;> simp [ll] <;> omega)]
end

/-! What Look says -/
theorem lookB_ok {km kb kn kq : Nat} {b t p v : Int} {W : List Int} : ∀ (Q : List Int) (m : Nat) (D : List Int) (cn : Nat) (O : Mo), Q.length < m → MemW O km kb W → NodesO O kn b t → O[kq]? = some (.buf 1 (ints D)) → D.length = cn → (D.length + Q.length : Int) ≤ t →
    kq ≠ kb → lnA b W Q → (∀ q ∈ Q, 0 ≤ q ∧ q < t) →
    ∃ O', lookB km kn p t v m (hdA Q) 0 kq cn O = some (.tup [.agg [.int .i64 v, .bref 0 kq 0 (cn + Q.length) (cn + Q.length)], .int .i64 0], O') ∧ Ag O O' [kq] ∧ O'[kq]? = some (.buf 1 (ints (D ++ Q))) ∧ O'.length = O.length
  | [], m, D, cn, O, hm, hM, hN, hk, hD, hl, hne, hln, hr => by
    obtain ⟨m, rfl⟩ : ∃ m', m = m' + 1 := ⟨m - 1, by simp at hm; omega⟩
    refine ⟨O, ?_, Ag.refl _ _, by simpa using hk, rfl⟩
    have c1 : ¬ (0 : Int) < 0 := by omega
    have c2 : (cn : Int) ≤ t := by simp at hl; omega
    simp only [lookB, hdA, if_true, if_neg c1, if_pos c2, List.length_nil, Nat.add_zero]
  | q :: Q, m, D, cn, O, hm, hM, hN, hk, hD, hl, hne, hln, hr => by
    obtain ⟨m, rfl⟩ : ∃ m', m = m' + 1 := ⟨m - 1, by simp at hm; omega⟩
    have rq := hr q (by simp)
    have b1 := hN.b1
    have t2 := hN.t2
    have c1 : (0 : Int) < rfA q := by unfold rfA; omega
    have c2 : (cn : Int) ≤ t := by simp at hl; omega
    have e1 := node_ok hN (r := rfA q) (by unfold rfA; omega) (by unfold rfA; omega)
    have e2 : nownerS [.ref 0 kn 0, .int .i64 (rfA q - 1)] O = some (.tup [.int .i64 q, .int .i64 0], O) := by
      have a1 : 1 ≤ t ∧ t ≤ 64 := ⟨hN.t1, hN.t2⟩
      have a2 : ¬ rfA q - 1 < 0 := by unfold rfA; omega
      have a3 : rfA q - 1 < t * 2 := by unfold rfA; omega
      have a4 : (rfA q - 1) / 2 = q := by unfold rfA; omega
      simp only [nownerS, hN.o, if_pos a1, if_neg a2, if_pos a3, a4]
    have g1 : Ag O (O.set kq (.buf 1 (ints (D ++ [q])))) [kq] := Ag.set _ _ (by simp)
    have M1 := hM.ag g1 (by simp; intro e; subst e; rw [hM.m] at hk; cases hk) (by simp [hne.symm])
    have N1 := hN.ag g1 (by simp; intro e; subst e; rw [hN.o] at hk; cases hk)
    have e3 := next_ok N1 (nd := rfA q - 1) (by unfold rfA; omega) (by unfold rfA; omega)
    have hx : W[(b + (rfA q - 1) * 3).toNat]? = some (hdA Q) := by
      have : W[nxA b q]? = some (hdA Q) := by
        cases Q with
        | nil => exact hln
        | cons r l => exact hln.1
      unfold nxA at this
      unfold rfA
      rw [show b + (q * 2 + 1 + 1 - 1) * 3 = b + (q * 2 + 1) * 3 by omega]
      exact this
    have e4 := do_load M1 (w := b + (rfA q - 1) * 3) (by unfold rfA; omega) hx
    unfold acc at e4
    obtain ⟨O', e5, g5, k5, l5⟩ := lookB_ok (p := p) (v := v) Q m (D ++ [q]) (cn + 1) _ (by simp at hm; omega) M1 N1 (setS hk) (by simp [hD]) (by simp at hl ⊢; omega) hne (by
      cases Q with
      | nil => trivial
      | cons r l => exact hln.2) (fun x hx => hr x (by simp [hx]))
    refine ⟨O', ?_, g1.trans g5, by simpa using k5, by simpa using l5⟩
    rw [show cn + (q :: Q).length = cn + 1 + Q.length by simp; omega, ← e5]
    show lookB km kn p t v (m + 1) (rfA q) 0 kq cn O = _
    conv => lhs; unfold lookB
    simp only [if_true, if_pos c1, if_pos c2, e1, e2, bufI_mk hk, if_pos hD, e3, loadS, acc, e4]
theorem sameG_true {O : Mo} {a c : AV} {l : List Int} (ha : rdI O a = some l) (hc : rdI O c = some l) (hl : l.length ≤ 1000) : ∀ (m : Nat) (i : Int), 0 ≤ i → (l.length : Int) < i + m → i ≤ l.length → sameG a c m i O = some (.bool true, O)
  | 0, i, h0, h1, h2 => by omega
  | m + 1, i, h0, h1, h2 => by
    by_cases hi : i < (l.length : Int)
    · obtain ⟨x, hx⟩ := get_of_lt (W := l) (i := i.toNat) (by omega)
      simp only [sameG, ha, hc, if_pos hl, if_pos hi, if_pos h0, hx, if_true]
      exact sameG_true ha hc hl m (i + 1) (by omega) (by omega) (by omega)
    · simp only [sameG, ha, hc, if_pos hl, if_neg hi]
theorem same_ok {O : Mo} {a c : AV} {l : List Int} (ha : rdI O a = some l) (hc : rdI O c = some l) (hl : l.length ≤ 1000) : sameS [a, c] O = some (.bool true, O) := by
  have := sameG_true ha hc hl 1001 0 (by omega) (by omega) (by omega)
  simp only [sameS, ha, hc, if_pos hl, if_true, this]
/-- The gate's state is what it should be. -/
theorem looks_ok {O : Mo} {km kb : Nat} {W : List Int} {p t v : Int} {Q : List Int} {qv : AV} (h : MemW O km kb W) (g : GI (16 + 128 * p) t W v Q) (hp : 1 ≤ p ∧ p ≤ 511) (ht : 1 ≤ t ∧ t ≤ 17) (v0 : 0 ≤ v ∧ v ≤ 1000) (hq : (Q.length : Int) ≤ t)
    (hv : ∀ O', Ag O O' [] → rdI O' qv = some Q) : ∃ O', looksS [.agg [.int .i64 p, .int .i64 t], .ref 0 km 0, .int .i64 v, qv] O = some (.bool true, O') ∧ Ag O O' [] := by
  have M1 : MemW (O ++ [.arr [.int .i64 (16 + 128 * p), .int .i64 t]]) km kb W := h.ag (Ag.app _ _ []) (by simp) (by simp)
  have e1 := do_load (w := 13) M1 (by omega) g.ins
  have e2 := do_load (w := 14) M1 (by omega) g.fst
  have t1 : 1 ≤ t ∧ t ≤ 64 := by omega
  unfold acc at e1 e2
  cases Q with
  | nil =>
    have c0 : ¬ (0 : Int) < 0 := by omega
    have el : lookS [.iface 26 (.ref 0 km 0), .agg [.int .i64 p, .int .i64 t]] O = some (.tup [.agg [.int .i64 v, .nils], .int .i64 0], O ++ [.arr [.int .i64 (16 + 128 * p), .int .i64 t]]) := by
      simp only [lookS, dnodes_ok O p t hp ht, if_true, loadS, acc, e1, e2, if_pos v0, if_pos t1, lookA, hdA, if_neg c0]
    have hv1 := hv _ (Ag.app O [.arr [.int .i64 (16 + 128 * p), .int .i64 t]] [])
    have es := same_ok (rdI_nils (O ++ [.arr [.int .i64 (16 + 128 * p), .int .i64 t]])) hv1 (by simp)
    exact ⟨O ++ [.arr [.int .i64 (16 + 128 * p), .int .i64 t]], by simp only [looksS, el, if_true, rdI_nils, hv1, es], Ag.app _ _ _⟩
  | cons q Q =>
    have rq := g.rng q (by simp)
    have N1 : NodesO (O ++ [.arr [.int .i64 (16 + 128 * p), .int .i64 t]]) O.length (16 + 128 * p) t := ⟨app_last _ _, by omega, by omega, by omega, by omega, by omega⟩
    have b1 := N1.b1
    have n1 := node_ok N1 (r := rfA q) (by unfold rfA; omega) (by unfold rfA; omega)
    have n2 : nownerS [.ref 0 O.length 0, .int .i64 (rfA q - 1)] (O ++ [.arr [.int .i64 (16 + 128 * p), .int .i64 t]]) = some (.tup [.int .i64 q, .int .i64 0], O ++ [.arr [.int .i64 (16 + 128 * p), .int .i64 t]]) := by
      have a2 : ¬ rfA q - 1 < 0 := by unfold rfA; omega
      have a3 : rfA q - 1 < t * 2 := by unfold rfA; omega
      have a4 : (rfA q - 1) / 2 = q := by unfold rfA; omega
      simp only [nownerS, N1.o, if_pos t1, if_neg a2, if_pos a3, a4]
    have M2 : MemW (O ++ [.arr [.int .i64 (16 + 128 * p), .int .i64 t]] ++ [.buf 1 (ints [q])]) km kb W := M1.ag (Ag.app _ _ []) (by simp) (by simp)
    have N2 : NodesO (O ++ [.arr [.int .i64 (16 + 128 * p), .int .i64 t]] ++ [.buf 1 (ints [q])]) O.length (16 + 128 * p) t := N1.ag (Ag.app _ _ []) (by simp)
    have n3 := next_ok N2 (nd := rfA q - 1) (by unfold rfA; omega) (by unfold rfA; omega)
    have hx : W[(16 + 128 * p + (rfA q - 1) * 3).toNat]? = some (hdA Q) := by
      have := hd_link g
      unfold nxA at this
      unfold rfA
      rw [show 16 + 128 * p + (q * 2 + 1 + 1 - 1) * 3 = 16 + 128 * p + (q * 2 + 1) * 3 by omega]
      exact this
    have e4 := do_load M2 (w := 16 + 128 * p + (rfA q - 1) * 3) (by unfold rfA; omega) hx
    unfold acc at e4
    have hlen : (O ++ [ABlk.arr [.int .i64 (16 + 128 * p), .int .i64 t]]).length = O.length + 1 := by simp
    obtain ⟨O', e5, g5, k5, l5⟩ := lookB_ok (p := p) (v := v) (kq := O.length + 1) Q 99 [q] 1 _ (by simp at hq; omega) M2 N2 (by rw [← hlen]; exact app_last _ _) rfl (by simp at hq ⊢; omega) (by have := lt_of_get h.b; omega) (by
      have := g.lnk
      cases Q with
      | nil => trivial
      | cons r l => exact this.2) (fun x hx => g.rng x (by simp [hx]))
    have c1 : (0 : Int) < rfA q := by unfold rfA; omega
    have el : lookS [.iface 26 (.ref 0 km 0), .agg [.int .i64 p, .int .i64 t]] O = some (.tup [.agg [.int .i64 v, .bref 0 (O.length + 1) 0 (1 + Q.length) (1 + Q.length)], .int .i64 0], O') := by
      simp only [lookS, dnodes_ok O p t hp ht, if_true, loadS, acc, e1, e2, if_pos v0, if_pos t1, lookA, hdA, if_pos c1, n1, n2, n3, e4, hlen]
      exact e5
    have G : Ag O O' [] := by
      refine ⟨by rw [l5]; simp, fun j hj _ => ?_⟩
      rw [g5.2 j (by simp; omega) (by simp; omega), List.getElem?_append_left (by simp; omega), List.getElem?_append_left hj]
    have hv1 := hv _ G
    have hv2 : rdI O' (.bref 0 (O.length + 1) 0 (1 + Q.length) (1 + Q.length)) = some (q :: Q) := rdI_bref k5 (by simp; omega)
    have es := same_ok hv2 hv1 (by simp at hq ⊢; omega)
    exact ⟨O', by simp only [looksS, el, if_true, hv2, hv1, es], G⟩
end Den
