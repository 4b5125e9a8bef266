/- Contracts of the gate's state, and of what law 31 compares it with. -/
import Derived.Test.YtiecdchfnenldaaGreatSpecs
import Derived.Test.YtiecdchfnenldaaGreatKnownS
import Derived.Test.YtiecdchfnenldaaGreatDenG7
import Derived.Test.YtiecdchfnenldaaGreatAbsS
set_option maxRecDepth 100000
set_option maxHeartbeats 4000000
set_option linter.unusedSimpArgs false
set_option linter.unusedVariables false
namespace Den
open Go Go.Proofs

/-- Methods by their types. -/
theorem methM : cfgA.meth 26 "Load" = some 52 ∧ mok Tryz.prog 26 "Load" = true ∧ cfgA.meth 26 "Store" = some 48 ∧ mok Tryz.prog 26 "Store" = true := ⟨by kernel_rfl, by kernel_rfl, by kernel_rfl, by kernel_rfl⟩

/-- gate.Look: the loop 0 -/
def lookB (km kn : Nat) (p t v : Int) : Nat → Int → Int → Nat → Nat → Mo → Option (AV × Mo)
  | 0, rf, e, kq, cn, O => none
  | m + 1, rf, e, kq, cn, O =>
    if e = 0 then
      if 0 < rf then
        if (cn : Int) ≤ t then
          match nnodeS [.ref 0 kn 0, .int .u64 rf] O with
          | some (.tup [.int .i64 nd, .int .i64 f], Oa) =>
            match nownerS [.ref 0 kn 0, .int .i64 nd] Oa with
            | some (.tup [.int .i64 ow, .int .i64 g], Ob) =>
              if f = 0 then
                if g = 0 then
                  match bufI Ob kq with
                  | some l =>
                    if l.length = cn then
                      match nnextS [.ref 0 kn 0, .int .i64 nd] (Ob.set kq (.buf 1 (ints (l ++ [ow])))) with
                      | some (.int .i64 w, Oc) =>
                        match loadS [.ref 0 km 0, .int .i64 w] Oc with
                        | some (.tup [.int .u64 rf2, .int .i64 e2], Od) => lookB km kn p t v m rf2 e2 kq (cn + 1) Od
                        | _ => none
                      | _ => none
                    else none
                  | _ => none
                else none
              else none
            | _ => none
          | _ => none
        else none
      else if (cn : Int) ≤ t then some (.tup [.agg [.int .i64 v, .bref 0 kq 0 cn cn], .int .i64 0], O) else none
    else none
theorem lookB_loop {S : Ms} (km kn : Nat) (p t v : Int) (h0 : 1 ≤ t) (h1 : t ≤ 64) : ∀ (n : Nat) (rf e : Int) (kq cn : Nat) (O : Mo) (env : Env) (M : Nat) (r : AV) (O' : Mo) (h : lookB km kn p t v n rf e kq cn O = some (r, O')) (hM : n < M) (e0 : env 0 = .iface 26 (.ref 0 km 0)) (e1 : env 3 = .ref (S.length + 1) 0 0) (e2 : env 4 = .ref (S.length + 1) 1 0) (e3 : env 6 = .ref 0 kn 0) (e4 : env 7 = .int .i64 e) (e5 : env 9 = .ref (S.length + 1) 2 0) (e6 : env 10 = .int .u64 rf),
    W33x0 cfgA (tabC [(84, dNodesS), (52, loadS), (85, nnodeS), (86, nownerS), (76, nnextS)]) 100000 (loopN (exec cfgA (tabC [(84, dNodesS), (52, loadS), (85, nnodeS), (86, nownerS), (76, nnextS)]) 100000 B33x0) [] M ⟨leOf 106 env, O, S ++ [[ABlk.arr [.int .i64 p, .int .i64 t], ABlk.arr [.int .i64 0, .nils], ABlk.arr [.int .i64 v, .bref 0 kq 0 cn cn]]]⟩) = some (r, O', S) := by
  intro n
  induction n with
  | zero =>
    intro rf e kq cn O env M r O' h hM e0 e1 e2 e3 e4 e5 e6
    unfold lookB at h
    first | (cases h; done) | (dsimp only at h; cases h; done) | (split at h <;> first | (cases h; done) | (exfalso; omega))
  | succ n ih =>
    intro rf e kq cn O env M r O' h hM e0 e1 e2 e3 e4 e5 e6
    obtain ⟨M, rfl⟩ : ∃ M', M = M' + 1 := ⟨M - 1, by omega⟩
    unfold lookB at h
    repeat' (split at h)
    all_goals first | (cases h; done) | (dsimp only at h; cases h; done) | (exfalso; omega) | skip
    all_goals
      try dsimp only at h
      try simp only [acc, accZ, errA] at *
      first
        | (simp (disch := first | decide | omega | assumption | exact isS_of (by assumption) | exact ixok_of (by assumption) (by omega) | exact slOk_of (by assumption) | exact bufOk_of (by assumption) (by omega) | fail) only [loop_unf, loopK_N, loopK_E, loopK_R, RAs, RBs, RCs, RDs, REs, RFs, RGs, RHs, RIs, RJs, RKs, RLs, RRt, Nat.reduceLT, Nat.reduceEqDiff, Nat.reduceAdd, Nat.reduceSub, RXa, RXb, RXc, methR, methM, RSl, *]
           refine ih _ _ _ _ _ _ _ _ _ h (by omega) ?_ ?_ ?_ ?_ ?_ ?_ ?_
           all_goals simp (disch := first | decide | omega | assumption | exact isS_of (by assumption) | exact ixok_of (by assumption) (by omega) | exact slOk_of (by assumption) | exact bufOk_of (by assumption) (by omega) | fail) only [RAs, RBs, RCs, RDs, REs, RFs, RGs, RHs, RIs, RJs, RKs, RLs, RRt, Nat.reduceLT, Nat.reduceEqDiff, Nat.reduceAdd, Nat.reduceSub, RXa, RXb, RXc, methR, methM, RSl, *])
        | (simp only [Option.some.injEq, Prod.mk.injEq] at h
           obtain ⟨rfl, rfl⟩ := h
           simp (disch := first | decide | omega | assumption | exact isS_of (by assumption) | exact ixok_of (by assumption) (by omega) | exact slOk_of (by assumption) | exact bufOk_of (by assumption) (by omega) | fail) only [W33x0, loop_unf, loopK_N, loopK_E, loopK_R, RAs, RBs, RCs, RDs, REs, RFs, RGs, RHs, RIs, RJs, RKs, RLs, RRt, Nat.reduceLT, Nat.reduceEqDiff, Nat.reduceAdd, Nat.reduceSub, RXa, RXb, RXc, methR, methM, RSl, *])

/-- gate.Look: the loop 0 -/
def lookA (km kn : Nat) (p t v : Int) : Nat → Int → Int → Mo → Option (AV × Mo)
  | 0, rf, e, O => none
  | m + 1, rf, e, O =>
    if e = 0 then
      if 0 < rf then
        match nnodeS [.ref 0 kn 0, .int .u64 rf] O with
        | some (.tup [.int .i64 nd, .int .i64 f], Oa) =>
          match nownerS [.ref 0 kn 0, .int .i64 nd] Oa with
          | some (.tup [.int .i64 ow, .int .i64 g], Ob) =>
            if f = 0 then
              if g = 0 then
                match nnextS [.ref 0 kn 0, .int .i64 nd] (Ob ++ [.buf 1 (ints [ow])]) with
                | some (.int .i64 w, Oc) =>
                  match loadS [.ref 0 km 0, .int .i64 w] Oc with
                  | some (.tup [.int .u64 rf2, .int .i64 e2], Od) => lookB km kn p t v m rf2 e2 Ob.length 1 Od
                  | _ => none
                | _ => none
              else none
            else none
          | _ => none
        | _ => none
      else some (.tup [.agg [.int .i64 v, .nils], .int .i64 0], O)
    else none
theorem lookA_loop {S : Ms} (km kn : Nat) (p t v : Int) (h0 : 1 ≤ t) (h1 : t ≤ 64) : ∀ (n : Nat) (rf e : Int) (O : Mo) (env : Env) (M : Nat) (r : AV) (O' : Mo) (h : lookA km kn p t v n rf e O = some (r, O')) (hM : n < M) (e0 : env 0 = .iface 26 (.ref 0 km 0)) (e1 : env 3 = .ref (S.length + 1) 0 0) (e2 : env 4 = .ref (S.length + 1) 1 0) (e3 : env 6 = .ref 0 kn 0) (e4 : env 7 = .int .i64 e) (e5 : env 9 = .ref (S.length + 1) 2 0) (e6 : env 10 = .int .u64 rf),
    W33x0 cfgA (tabC [(84, dNodesS), (52, loadS), (85, nnodeS), (86, nownerS), (76, nnextS)]) 100000 (loopN (exec cfgA (tabC [(84, dNodesS), (52, loadS), (85, nnodeS), (86, nownerS), (76, nnextS)]) 100000 B33x0) [] M ⟨leOf 106 env, O, S ++ [[ABlk.arr [.int .i64 p, .int .i64 t], ABlk.arr [.int .i64 0, .nils], ABlk.arr [.int .i64 v, .nils]]]⟩) = some (r, O', S) := by
  intro n
  induction n with
  | zero =>
    intro rf e O env M r O' h hM e0 e1 e2 e3 e4 e5 e6
    unfold lookA at h
    first | (cases h; done) | (dsimp only at h; cases h; done) | (split at h <;> first | (cases h; done) | (exfalso; omega))
  | succ n ih =>
    intro rf e O env M r O' h hM e0 e1 e2 e3 e4 e5 e6
    obtain ⟨M, rfl⟩ : ∃ M', M = M' + 1 := ⟨M - 1, by omega⟩
    unfold lookA at h
    repeat' (split at h)
    all_goals first | (cases h; done) | (dsimp only at h; cases h; done) | (exfalso; omega) | skip
    all_goals
      try dsimp only at h
      try simp only [acc, accZ, errA] at *
      first
        | (simp (disch := first | decide | omega | assumption | exact isS_of (by assumption) | exact ixok_of (by assumption) (by omega) | exact slOk_of (by assumption) | exact bufOk_of (by assumption) (by omega) | fail) only [loop_unf, loopK_N, loopK_E, loopK_R, RAs, RBs, RCs, RDs, REs, RFs, RGs, RHs, RIs, RJs, RKs, RLs, RRt, Nat.reduceLT, Nat.reduceEqDiff, Nat.reduceAdd, Nat.reduceSub, RXa, RXb, RXc, methR, methM, RSl, *]
           refine ih _ _ _ _ _ _ _ h (by omega) ?_ ?_ ?_ ?_ ?_ ?_ ?_
           all_goals simp (disch := first | decide | omega | assumption | exact isS_of (by assumption) | exact ixok_of (by assumption) (by omega) | exact slOk_of (by assumption) | exact bufOk_of (by assumption) (by omega) | fail) only [RAs, RBs, RCs, RDs, REs, RFs, RGs, RHs, RIs, RJs, RKs, RLs, RRt, Nat.reduceLT, Nat.reduceEqDiff, Nat.reduceAdd, Nat.reduceSub, RXa, RXb, RXc, methR, methM, RSl, *])
        | (simp (disch := first | decide | omega | assumption | exact isS_of (by assumption) | exact ixok_of (by assumption) (by omega) | exact slOk_of (by assumption) | exact bufOk_of (by assumption) (by omega) | fail) only [loop_unf, loopK_N, loopK_E, loopK_R, RAs, RBs, RCs, RDs, REs, RFs, RGs, RHs, RIs, RJs, RKs, RLs, RRt, Nat.reduceLT, Nat.reduceEqDiff, Nat.reduceAdd, Nat.reduceSub, RXa, RXb, RXc, methR, methM, RSl, *]
           refine lookB_loop _ _ _ _ _ (by omega) (by omega) _ _ _ _ _ _ _ _ _ _ h (by omega) ?_ ?_ ?_ ?_ ?_ ?_ ?_
           all_goals simp (disch := first | decide | omega | assumption | exact isS_of (by assumption) | exact ixok_of (by assumption) (by omega) | exact slOk_of (by assumption) | exact bufOk_of (by assumption) (by omega) | fail) only [RAs, RBs, RCs, RDs, REs, RFs, RGs, RHs, RIs, RJs, RKs, RLs, RRt, Nat.reduceLT, Nat.reduceEqDiff, Nat.reduceAdd, Nat.reduceSub, RXa, RXb, RXc, methR, methM, RSl, *])
        | (simp only [Option.some.injEq, Prod.mk.injEq] at h
           obtain ⟨rfl, rfl⟩ := h
           simp (disch := first | decide | omega | assumption | exact isS_of (by assumption) | exact ixok_of (by assumption) (by omega) | exact slOk_of (by assumption) | exact bufOk_of (by assumption) (by omega) | fail) only [W33x0, loop_unf, loopK_N, loopK_E, loopK_R, RAs, RBs, RCs, RDs, REs, RFs, RGs, RHs, RIs, RJs, RKs, RLs, RRt, Nat.reduceLT, Nat.reduceEqDiff, Nat.reduceAdd, Nat.reduceSub, RXa, RXb, RXc, methR, methM, RSl, *])

/-- gate.Look -/
def lookS : Sp := fun args O =>
  match args with
  | [.iface t0 (.ref 0 km 0), .agg [.int .i64 p, .int .i64 t]] =>
    if t0 = 26 then
      match dNodesS [.agg [.int .i64 p, .int .i64 t]] O with
      | some (.tup [.ref 0 kn 0, .int .i64 e], Oa) =>
        if e = 0 then
          match loadS [.ref 0 km 0, .int .i64 13] Oa with
          | some (.tup [.int .u64 v, .int .i64 e1], Ob) =>
            if e1 = 0 then
              if 0 ≤ v ∧ v ≤ 1000 then
                match loadS [.ref 0 km 0, .int .i64 14] Ob with
                | some (.tup [.int .u64 rf, .int .i64 e2], Oc) => if 1 ≤ t ∧ t ≤ 64 then lookA km kn p t v 100 rf e2 Oc else none
                | _ => none
              else none
            else none
          | _ => none
        else none
      | _ => none
    else none
  | _ => none
theorem lookS_ok : SpOk Tryz.prog 33 lookS := by
  intro args O r O' h S
  unfold lookS at h
  repeat' (split at h)
  all_goals first | (cases h; done) | skip
  all_goals
    try simp only [acc, accZ, errA] at *
    first
      | (simp only [Option.some.injEq, Prod.mk.injEq] at h
         obtain ⟨rfl, rfl⟩ := h
         refine bodyA (tabC_cons dNodesS_ok (tabC_cons loadS_ok (tabC_cons nnodeS_ok (tabC_cons nownerS_ok (tabC_cons nnextS_ok (tabC_nil _)))))) (n := 100000) F33_code ?_
         simp (disch := first | decide | omega | assumption | exact isS_of (by assumption) | exact ixok_of (by assumption) (by omega) | exact slOk_of (by assumption) | exact bufOk_of (by assumption) (by omega) | fail) only [F33, RAs, RBs, RCs, RDs, REs, RFs, RGs, RHs, RIs, RJs, RKs, RLs, RRt, Nat.reduceLT, Nat.reduceEqDiff, Nat.reduceAdd, Nat.reduceSub, RXa, RXb, RXc, methR, methM, RSl, acc, accZ, errA, *])
      | (refine bodyA (tabC_cons dNodesS_ok (tabC_cons loadS_ok (tabC_cons nnodeS_ok (tabC_cons nownerS_ok (tabC_cons nnextS_ok (tabC_nil _)))))) (n := 100000) F33_code ?_
         simp (disch := first | decide | omega | assumption | exact isS_of (by assumption) | exact ixok_of (by assumption) (by omega) | exact slOk_of (by assumption) | exact bufOk_of (by assumption) (by omega) | fail) only [F33, RAs, RBs, RCs, RDs, REs, RFs, RGs, RHs, RIs, RJs, RKs, RLs, RRt, Nat.reduceLT, Nat.reduceEqDiff, Nat.reduceAdd, Nat.reduceSub, RXa, RXb, RXc, methR, methM, RSl, e_loop, acc, accZ, errA, *]
         refine (fin_skip _ _ _ _ _).trans ?_
         refine lookA_loop _ _ _ _ _ (by omega) (by omega) _ _ _ _ _ _ _ _ h (by omega) ?_ ?_ ?_ ?_ ?_ ?_ ?_
         all_goals simp (disch := first | decide | omega | assumption | exact isS_of (by assumption) | exact ixok_of (by assumption) (by omega) | exact slOk_of (by assumption) | exact bufOk_of (by assumption) (by omega) | fail) only [RAs, RBs, RCs, RDs, REs, RFs, RGs, RHs, RIs, RJs, RKs, RLs, RRt, Nat.reduceLT, Nat.reduceEqDiff, Nat.reduceAdd, Nat.reduceSub, RXa, RXb, RXc, methR, methM, RSl, *])

/-- ticketlineref31.Same: the loop 0 -/
def sameG (a b : AV) : Nat → Int → Mo → Option (AV × Mo)
  | 0, i, O => none
  | m + 1, i, O =>
    match rdI O a with
    | some l =>
      match rdI O b with
      | some r =>
        if l.length ≤ 1000 then
          if i < (l.length : Int) then
            if 0 ≤ i then
              if i < (r.length : Int) then
                match l[i.toNat]? with
                | some x =>
                  match r[i.toNat]? with
                  | some y => if x = y then sameG a b m (i + 1) O else some (.bool false, O)
                  | _ => none
                | _ => none
              else none
            else none
          else some (.bool true, O)
        else none
      | _ => none
    | _ => none
theorem sameG_loop {S : Ms} (a b : AV)  : ∀ (n : Nat) (i : Int) (O : Mo) (env : Env) (M : Nat) (r : AV) (O' : Mo) (h : sameG a b n i O = some (r, O')) (hM : n < M) (e0 : env 0 = a) (e1 : env 1 = b) (e2 : env 5 = .int .i64 i),
    W70x0 cfgA (tabC []) 100000 (loopN (exec cfgA (tabC []) 100000 B70x0) [] M ⟨leOf 26 env, O, S ++ [[]]⟩) = some (r, O', S) := by
  intro n
  induction n with
  | zero =>
    intro i O env M r O' h hM e0 e1 e2
    unfold sameG at h
    first | (cases h; done) | (dsimp only at h; cases h; done) | (split at h <;> first | (cases h; done) | (exfalso; omega))
  | succ n ih =>
    intro i O env M r O' h hM e0 e1 e2
    obtain ⟨M, rfl⟩ : ∃ M', M = M' + 1 := ⟨M - 1, by omega⟩
    unfold sameG at h
    repeat' (split at h)
    all_goals first | (cases h; done) | (dsimp only at h; cases h; done) | (exfalso; omega) | skip
    all_goals
      try dsimp only at h
      try simp only [acc, accZ, errA] at *
      first
        | (simp (disch := first | decide | omega | assumption | exact isS_of (by assumption) | exact ixok_of (by assumption) (by omega) | exact slOk_of (by assumption) | exact bufOk_of (by assumption) (by omega) | fail) only [loop_unf, loopK_N, loopK_E, loopK_R, RAs, RBs, RCs, RDs, REs, RFs, RGs, RHs, RIs, RJs, RKs, RLs, RRt, Nat.reduceLT, Nat.reduceEqDiff, Nat.reduceAdd, Nat.reduceSub, RXa, RXb, RXc, methR, methM, RSl, *]
           refine ih _ _ _ _ _ _ h (by omega) ?_ ?_ ?_
           all_goals simp (disch := first | decide | omega | assumption | exact isS_of (by assumption) | exact ixok_of (by assumption) (by omega) | exact slOk_of (by assumption) | exact bufOk_of (by assumption) (by omega) | fail) only [RAs, RBs, RCs, RDs, REs, RFs, RGs, RHs, RIs, RJs, RKs, RLs, RRt, Nat.reduceLT, Nat.reduceEqDiff, Nat.reduceAdd, Nat.reduceSub, RXa, RXb, RXc, methR, methM, RSl, *])
        | (simp only [Option.some.injEq, Prod.mk.injEq] at h
           obtain ⟨rfl, rfl⟩ := h
           simp (disch := first | decide | omega | assumption | exact isS_of (by assumption) | exact ixok_of (by assumption) (by omega) | exact slOk_of (by assumption) | exact bufOk_of (by assumption) (by omega) | fail) only [W70x0, loop_unf, loopK_N, loopK_E, loopK_R, RAs, RBs, RCs, RDs, REs, RFs, RGs, RHs, RIs, RJs, RKs, RLs, RRt, Nat.reduceLT, Nat.reduceEqDiff, Nat.reduceAdd, Nat.reduceSub, RXa, RXb, RXc, methR, methM, RSl, *])

attribute [local irreducible] sameG
/-- ticketlineref31.Same -/
def sameS : Sp := fun args O =>
  match args with
  | [a, b] =>
    match rdI O a with
    | some l =>
      match rdI O b with
      | some r =>
        if l.length ≤ 1000 then
          if (l.length : Int) = (r.length : Int) then sameG a b 1001 0 O
          else some (.bool false, O)
        else none
      | _ => none
    | _ => none
  | _ => none
theorem sameS_ok : SpOk Tryz.prog 70 sameS := by
  intro args O r O' h S
  unfold sameS at h
  repeat' (split at h)
  all_goals first | (cases h; done) | skip
  all_goals
    try simp only [acc, accZ, errA] at *
    first
      | (simp only [Option.some.injEq, Prod.mk.injEq] at h
         obtain ⟨rfl, rfl⟩ := h
         refine bodyA (tabC_nil _) (n := 100000) F70_code ?_
         simp (disch := first | decide | omega | assumption | exact isS_of (by assumption) | exact ixok_of (by assumption) (by omega) | exact slOk_of (by assumption) | exact bufOk_of (by assumption) (by omega) | fail) only [F70, RAs, RBs, RCs, RDs, REs, RFs, RGs, RHs, RIs, RJs, RKs, RLs, RRt, Nat.reduceLT, Nat.reduceEqDiff, Nat.reduceAdd, Nat.reduceSub, RXa, RXb, RXc, methR, methM, RSl, acc, accZ, errA, *])
      | (refine bodyA (tabC_nil _) (n := 100000) F70_code ?_
         simp (disch := first | decide | omega | assumption | exact isS_of (by assumption) | exact ixok_of (by assumption) (by omega) | exact slOk_of (by assumption) | exact bufOk_of (by assumption) (by omega) | fail) only [F70, RAs, RBs, RCs, RDs, REs, RFs, RGs, RHs, RIs, RJs, RKs, RLs, RRt, Nat.reduceLT, Nat.reduceEqDiff, Nat.reduceAdd, Nat.reduceSub, RXa, RXb, RXc, methR, methM, RSl, e_loop, acc, accZ, errA, *]
         refine (fin_skip _ _ _ _ _).trans ?_
         refine sameG_loop _ _ _ _ _ _ _ _ _ h (by omega) ?_ ?_ ?_
         all_goals simp (disch := first | decide | omega | assumption | exact isS_of (by assumption) | exact ixok_of (by assumption) (by omega) | exact slOk_of (by assumption) | exact bufOk_of (by assumption) (by omega) | fail) only [RAs, RBs, RCs, RDs, REs, RFs, RGs, RHs, RIs, RJs, RKs, RLs, RRt, Nat.reduceLT, Nat.reduceEqDiff, Nat.reduceAdd, Nat.reduceSub, RXa, RXb, RXc, methR, methM, RSl, *])

/-- ticketlinelaw31.looks -/
def looksS : Sp := fun args O =>
  match args with
  | [.agg [.int .i64 p, .int .i64 t], .ref 0 km 0, .int .i64 ins, q] =>
    match lookS [.iface 26 (.ref 0 km 0), .agg [.int .i64 p, .int .i64 t]] O with
    | some (.tup [.agg [.int .i64 v, w], .int .i64 e], Oa) =>
      if e = 0 then
        match rdI Oa w with
        | some _ =>
          match rdI Oa q with
          | some _ =>
            if v = ins then
              match sameS [w, q] Oa with
              | some (.bool b, Ob) => some (.bool b, Ob)
              | _ => none
            else some (.bool false, Oa)
          | _ => none
        | _ => none
      else none
    | _ => none
  | _ => none
theorem looksS_ok : SpOk Tryz.prog 23 looksS := by
  intro args O r O' h S
  unfold looksS at h
  repeat' (split at h)
  all_goals first | (cases h; done) | skip
  all_goals
    simp only [Option.some.injEq, Prod.mk.injEq] at h
    obtain ⟨rfl, rfl⟩ := h
    refine bodyA (tabC_cons lookS_ok (tabC_cons sameS_ok (tabC_nil _))) (n := 0) F23_code ?_
    try simp only [acc, accZ, errA] at *
    simp (disch := first | decide | omega | assumption | exact isS_of (by assumption) | exact ixok_of (by assumption) (by omega) | exact slOk_of (by assumption) | exact bufOk_of (by assumption) (by omega) | fail) only [F23, RAs, RBs, RCs, RDs, REs, RFs, RGs, RHs, RIs, RJs, RKs, RLs, RRt, Nat.reduceLT, Nat.reduceEqDiff, Nat.reduceAdd, Nat.reduceSub, RXa, RXb, RXc, methR, methM, RSl, acc, accZ, errA, *]

end Den

/- The gate's programs: their beginnings, copies, runs one behind the other. -/
set_option maxRecDepth 100000
set_option maxHeartbeats 1000000
set_option linter.unusedSimpArgs false
set_option linter.unusedVariables false
namespace Den
open Go Go.Proofs

/-- A program at its beginning. -/
structure Gn (O : Mo) (k ka kn : Nat) (b t th : Int) (p : GP) : Prop where
  N : NodesO O kn b t
  A : SubO O ka kn 12 (th * 2) p.pc p.ot p.en
  K : O[k]? = some (gtB kn (th * 2 + 1) p.st p.ty ka p.val p.mu th p.x)
  h1 : 0 ≤ th
  h2 : th < t
theorem Gn.ge {O : Mo} {km kb k ka kn : Nat} {W : List Int} {b t th : Int} {p : GP} (h : Gn O k ka kn b t th p) (m : MemW O km kb W) : Ge O km kb k ka kn W b t th p := ⟨m, h.N, h.A, h.K, h.h1, h.h2⟩
theorem Ge.gn {O : Mo} {km kb k ka kn : Nat} {W : List Int} {b t th : Int} {p : GP} (h : Ge O km kb k ka kn W b t th p) : Gn O k ka kn b t th p := ⟨h.N, h.A, h.K, h.h1, h.h2⟩
theorem Gn.ag {O O' : Mo} {k ka kn : Nat} {b t th : Int} {p : GP} {l : List Nat} (h : Gn O k ka kn b t th p) (g : Ag O O' l) (h1 : k ∉ l) (h2 : ka ∉ l) (h3 : kn ∉ l) : Gn O' k ka kn b t th p :=
  ⟨h.N.ag g h3, g.get h.A h2, g.get h.K h1, h.h1, h.h2⟩
theorem Gn.lt {O : Mo} {k ka kn : Nat} {b t th : Int} {p : GP} (h : Gn O k ka kn b t th p) : k < O.length ∧ ka < O.length ∧ kn < O.length := ⟨lt_of_get h.K, lt_of_get h.A, lt_of_get h.N.o⟩
/-- What gate.made makes. -/
theorem gmade_ok (O : Mo) (p t th : Int) (hp : 1 ≤ p ∧ p ≤ 511) (ht : 1 ≤ t ∧ t ≤ 17) (h1 : 0 ≤ th) (h2 : th < t) :
    gmadeS [.agg [.int .i64 p, .int .i64 t], .int .i64 th] O = some (.tup [.agg [.ref 0 O.length 0, .int .i64 (th * 2 + 1), .int .i64 1, .iface acqT (.ref 0 (O.length + 1) 0), .int .u64 0, .bool false], .int .i64 0],
      O ++ [.arr [.int .i64 (16 + 128 * p), .int .i64 t]] ++ [subB O.length 12 (th * 2) 1 0 false]) := by
  have N : NodesO (O ++ [.arr [.int .i64 (16 + 128 * p), .int .i64 t]]) O.length (16 + 128 * p) t := ⟨app_last _ _, by omega, by omega, by omega, by omega, by omega⟩
  have e1 := of_ok1 N h1 h2
  have e2 := of_ok N h1 h2
  have e3 := acq_ok (lk := 12) (nd := th * 2) N (by omega) (by omega) (by omega) (by omega)
  have c1 : ¬ th < 0 := by omega
  have c2 : ¬ t ≤ th := by omega
  simp only [gmadeS, dnodes_ok O p t hp ht, if_true, if_neg c1, if_neg c2, e1, e2, e3]
  simp [acqT]
theorem new_gn {O : Mo} {p t th x : Int} (hp : 1 ≤ p ∧ p ≤ 511) (ht : 1 ≤ t ∧ t ≤ 17) (h1 : 0 ≤ th) (h2 : th < t) :
    Gn (O ++ [ABlk.arr [.int .i64 (16 + 128 * p), .int .i64 t]] ++ [subB O.length 12 (th * 2) 1 0 false] ++ [.arr [.ref 0 O.length 0, .int .i64 (th * 2 + 1), .int .i64 1, .iface acqT (.ref 0 (O.length + 1) 0), .int .u64 0, .bool false, .int .i64 th, .int .i64 x]])
      (O.length + 2) (O.length + 1) O.length (16 + 128 * p) t th (gp0 x) where
  N := ⟨app_get (app_get (app_last _ _)), by omega, by omega, by omega, by omega, by omega⟩
  A := by simp [SubO, gp0]
  K := by simp [gtB, gp0]
  h1 := h1
  h2 := h2
theorem newEnter_ok (O : Mo) (p t th mo : Int) (hp : 1 ≤ p ∧ p ≤ 511) (ht : 1 ≤ t ∧ t ≤ 17) (h1 : 0 ≤ th) (h2 : th < t) (m1 : 1 ≤ mo) (m2 : mo ≤ 64) :
    ∃ O', newEnterS [.agg [.int .i64 p, .int .i64 t], .int .i64 th, .int .i64 mo] O = some (.tup [.ref 0 (O.length + 2) 0, .int .i64 0], O') ∧ Ag O O' [] ∧ Gn O' (O.length + 2) (O.length + 1) O.length (16 + 128 * p) t th (gp0 mo) := by
  have c1 : ¬ mo < 1 := by omega
  have c2 : ¬ 64 < mo := by omega
  refine ⟨_, ?_, ((Ag.app _ _ _).trans (Ag.app _ _ _)).trans (Ag.app _ _ _), new_gn hp ht h1 h2⟩
  simp only [newEnterS, gmade_ok O p t th hp ht h1 h2, if_true, if_neg c1, if_neg c2]
  simp
theorem newLeave_ok (O : Mo) (p t th : Int) (hp : 1 ≤ p ∧ p ≤ 511) (ht : 1 ≤ t ∧ t ≤ 17) (h1 : 0 ≤ th) (h2 : th < t) :
    ∃ O', newLeaveS [.agg [.int .i64 p, .int .i64 t], .int .i64 th] O = some (.tup [.ref 0 (O.length + 2) 0, .int .i64 0], O') ∧ Ag O O' [] ∧ Gn O' (O.length + 2) (O.length + 1) O.length (16 + 128 * p) t th (gp0 0) := by
  refine ⟨_, ?_, ((Ag.app _ _ _).trans (Ag.app _ _ _)).trans (Ag.app _ _ _), new_gn hp ht h1 h2⟩
  simp only [newLeaveS, gmade_ok O p t th hp ht h1 h2, if_true]
  simp
/-! Runs, one behind the other -/
theorem run31_enter {O O' : Mo} {k km : Nat} {most : Int} {r : AV} (hm : most ≤ 1000) (h : run31E k km most most.toNat 0 false O = some (r, O')) :
    run31S [.iface 42 (.ref 0 k 0), .ref 0 km 0, .int .i64 most] O = some (r, O') := by
  simp only [run31S, if_pos hm, if_true, h]
/-- A lock that is free, in an arena with an empty tree. -/
theorem fmt_wd {p t : Int} {W : List Int} (hp : 1 ≤ p ∧ p ≤ 511) (ht : 1 ≤ t ∧ t ≤ 17) (h : Wg W (16 + 128 * p + t * 2 * 3).toNat (fmtG p)) : Wd (16 + 128 * p) t W :=
  ⟨by omega, by rw [h.len]; omega, by rw [h.get 12 (by omega), fmtG_mid (by omega) (by omega)]⟩

end Den

/- The gate's queue in the words, and what the programs that run alone do to it. -/
set_option maxRecDepth 100000
set_option maxHeartbeats 1000000
set_option linter.unusedSimpArgs false
set_option linter.unusedVariables false
namespace Den
open Go Go.Proofs

/-- The words of a thread's node that it waits with. -/
def nxA (b q : Int) : Nat := (b + (q * 2 + 1) * 3).toNat
def wtA (b q : Int) : Nat := (b + (q * 2 + 1) * 3 + 1).toNat
def rfA (q : Int) : Int := q * 2 + 1 + 1
def hdA : List Int → Int
  | [] => 0
  | q :: _ => rfA q
def lsA : List Int → Int
  | [] => 0
  | [q] => rfA q
  | _ :: q :: l => lsA (q :: l)
/-- The links. -/
def lnA (b : Int) (W : List Int) : List Int → Prop
  | [] => True
  | [q] => W[nxA b q]? = some 0
  | q :: r :: l => W[nxA b q]? = some (rfA r) ∧ lnA b W (r :: l)
structure GI (b t : Int) (W : List Int) (v : Int) (Q : List Int) : Prop where
  wd : Wd b t W
  ins : W[13]? = some v
  fst : W[14]? = some (hdA Q)
  lst : W[15]? = some (lsA Q)
  lnk : lnA b W Q
  wt : ∀ q ∈ Q, W[wtA b q]? = some 1
  nod : Q.Nodup
  rng : ∀ q ∈ Q, 0 ≤ q ∧ q < t
theorem lnA_cong {b : Int} {W W' : List Int} : ∀ {Q : List Int}, (∀ q ∈ Q, W'[nxA b q]? = W[nxA b q]?) → lnA b W Q → lnA b W' Q
  | [], _, _ => trivial
  | [q], h, g => by
    show W'[nxA b q]? = some 0
    rw [h q (by simp)]; exact g
  | q :: r :: l, h, g => ⟨by rw [h q (by simp)]; exact g.1, lnA_cong (fun x hx => h x (by simp [hx])) g.2⟩
theorem lsA_app (Q : List Int) (q : Int) : lsA (Q ++ [q]) = rfA q := by
  induction Q with
  | nil => rfl
  | cons a l ih =>
    cases l with
    | nil => rfl
    | cons c l => exact ih
theorem lsA_pos {Q : List Int} (h : Q ≠ []) (hr : ∀ q ∈ Q, 0 ≤ q) : ∃ q ∈ Q, lsA Q = rfA q := by
  induction Q with
  | nil => exact absurd rfl h
  | cons a l ih =>
    cases l with
    | nil => exact ⟨a, by simp, rfl⟩
    | cons c l =>
      obtain ⟨q, hq, e⟩ := ih (by simp) (fun x hx => hr x (by simp [hx]))
      exact ⟨q, by simp at hq ⊢; right; exact hq, e⟩
/-- One more behind the last. -/
theorem lnA_app {b : Int} {W W' : List Int} {p : Int} (hp : W'[nxA b p]? = some 0) : ∀ {Q : List Int}, Q ≠ [] → lnA b W Q → (∀ q ∈ Q, rfA q ≠ lsA Q → W'[nxA b q]? = W[nxA b q]?) → (∀ q ∈ Q, rfA q = lsA Q → W'[nxA b q]? = some (rfA p)) → Q.Nodup → lnA b W' (Q ++ [p])
  | [], h, _, _, _, _ => absurd rfl h
  | [q], _, g, h1, h2, _ => ⟨h2 q (by simp) rfl, hp⟩
  | q :: r :: l, _, g, h1, h2, hn => by
    have hls : lsA (q :: r :: l) = lsA (r :: l) := rfl
    have hq : rfA q ≠ lsA (r :: l) := by
      have aux : ∀ (l : List Int), l ≠ [] → ∃ x ∈ l, lsA l = rfA x := by
        intro l hl
        induction l with
        | nil => exact absurd rfl hl
        | cons a l ih =>
          cases l with
          | nil => exact ⟨a, by simp, rfl⟩
          | cons c l =>
            obtain ⟨q, hq, e⟩ := ih (by simp)
            exact ⟨q, by simp at hq ⊢; right; exact hq, e⟩
      obtain ⟨x, hx, e⟩ := aux (r :: l) (by simp)
      rw [e]
      intro he
      have : q = x := by unfold rfA at he; omega
      subst this
      exact (List.nodup_cons.1 hn).1 hx
    exact ⟨by rw [h1 q (by simp) (by rw [hls]; exact hq)]; exact g.1,
      lnA_app hp (Q := r :: l) (by simp) g.2 (fun x hx hne => h1 x (by simp at hx ⊢; right; exact hx) (by rw [hls]; exact hne)) (fun x hx he => h2 x (by simp at hx ⊢; right; exact hx) (by rw [hls]; exact he)) (List.nodup_cons.1 hn).2⟩
section
variable {b t : Int} {W : List Int} {v th mo : Int} {Q : List Int}
theorem GI.hd (h : GI b t W v []) : W[14]? = some 0 := h.fst
/-- Where the one who comes puts its link. -/
def lkA (b : Int) (Q : List Int) : Int := if 0 < lsA Q then b + (lsA Q - 1) * 3 else 14
theorem hd_link {q : Int} (h : GI b t W v (q :: Q)) : W[nxA b q]? = some (hdA Q) := by
  have := h.lnk
  cases Q with
  | nil => exact this
  | cons r l => exact this.1
end

/-! What Look says -/
theorem lookB_ok {km kb kn kq : Nat} {b t p v : Int} {W : List Int} : ∀ (Q : List Int) (m : Nat) (D : List Int) (cn : Nat) (O : Mo), Q.length < m → MemW O km kb W → NodesO O kn b t → O[kq]? = some (.buf 1 (ints D)) → D.length = cn → (D.length + Q.length : Int) ≤ t →
    kq ≠ kb → lnA b W Q → (∀ q ∈ Q, 0 ≤ q ∧ q < t) →
    ∃ O', lookB km kn p t v m (hdA Q) 0 kq cn O = some (.tup [.agg [.int .i64 v, .bref 0 kq 0 (cn + Q.length) (cn + Q.length)], .int .i64 0], O') ∧ Ag O O' [kq] ∧ O'[kq]? = some (.buf 1 (ints (D ++ Q))) ∧ O'.length = O.length
  | [], m, D, cn, O, hm, hM, hN, hk, hD, hl, hne, hln, hr => by
    obtain ⟨m, rfl⟩ : ∃ m', m = m' + 1 := ⟨m - 1, by simp at hm; omega⟩
    refine ⟨O, ?_, Ag.refl _ _, by simpa using hk, rfl⟩
    have c1 : ¬ (0 : Int) < 0 := by omega
    have c2 : (cn : Int) ≤ t := by simp at hl; omega
    simp only [lookB, hdA, if_true, if_neg c1, if_pos c2, List.length_nil, Nat.add_zero]
  | q :: Q, m, D, cn, O, hm, hM, hN, hk, hD, hl, hne, hln, hr => by
    obtain ⟨m, rfl⟩ : ∃ m', m = m' + 1 := ⟨m - 1, by simp at hm; omega⟩
    have rq := hr q (by simp)
    have b1 := hN.b1
    have t2 := hN.t2
    have c1 : (0 : Int) < rfA q := by unfold rfA; omega
    have c2 : (cn : Int) ≤ t := by simp at hl; omega
    have e1 := node_ok hN (r := rfA q) (by unfold rfA; omega) (by unfold rfA; omega)
    have e2 : nownerS [.ref 0 kn 0, .int .i64 (rfA q - 1)] O = some (.tup [.int .i64 q, .int .i64 0], O) := by
      have a1 : 1 ≤ t ∧ t ≤ 64 := ⟨hN.t1, hN.t2⟩
      have a2 : ¬ rfA q - 1 < 0 := by unfold rfA; omega
      have a3 : rfA q - 1 < t * 2 := by unfold rfA; omega
      have a4 : (rfA q - 1) / 2 = q := by unfold rfA; omega
      simp only [nownerS, hN.o, if_pos a1, if_neg a2, if_pos a3, a4]
    have g1 : Ag O (O.set kq (.buf 1 (ints (D ++ [q])))) [kq] := Ag.set _ _ (by simp)
    have M1 := hM.ag g1 (by simp; intro e; subst e; rw [hM.m] at hk; cases hk) (by simp [hne.symm])
    have N1 := hN.ag g1 (by simp; intro e; subst e; rw [hN.o] at hk; cases hk)
    have e3 := next_ok N1 (nd := rfA q - 1) (by unfold rfA; omega) (by unfold rfA; omega)
    have hx : W[(b + (rfA q - 1) * 3).toNat]? = some (hdA Q) := by
      have : W[nxA b q]? = some (hdA Q) := by
        cases Q with
        | nil => exact hln
        | cons r l => exact hln.1
      unfold nxA at this
      unfold rfA
      rw [show b + (q * 2 + 1 + 1 - 1) * 3 = b + (q * 2 + 1) * 3 by omega]
      exact this
    have e4 := do_load M1 (w := b + (rfA q - 1) * 3) (by unfold rfA; omega) hx
    unfold acc at e4
    obtain ⟨O', e5, g5, k5, l5⟩ := lookB_ok (p := p) (v := v) Q m (D ++ [q]) (cn + 1) _ (by simp at hm; omega) M1 N1 (setS hk) (by simp [hD]) (by simp at hl ⊢; omega) hne (by
      cases Q with
      | nil => trivial
      | cons r l => exact hln.2) (fun x hx => hr x (by simp [hx]))
    refine ⟨O', ?_, g1.trans g5, by simpa using k5, by simpa using l5⟩
    rw [show cn + (q :: Q).length = cn + 1 + Q.length by simp; omega, ← e5]
    show lookB km kn p t v (m + 1) (rfA q) 0 kq cn O = _
    conv => lhs; unfold lookB
    simp only [if_true, if_pos c1, if_pos c2, e1, e2, bufI_mk hk, if_pos hD, e3, loadS, acc, e4]
theorem sameG_true {O : Mo} {a c : AV} {l : List Int} (ha : rdI O a = some l) (hc : rdI O c = some l) (hl : l.length ≤ 1000) : ∀ (m : Nat) (i : Int), 0 ≤ i → (l.length : Int) < i + m → i ≤ l.length → sameG a c m i O = some (.bool true, O)
  | 0, i, h0, h1, h2 => by omega
  | m + 1, i, h0, h1, h2 => by
    by_cases hi : i < (l.length : Int)
    · obtain ⟨x, hx⟩ := get_of_lt (W := l) (i := i.toNat) (by omega)
      simp only [sameG, ha, hc, if_pos hl, if_pos hi, if_pos h0, hx, if_true]
      exact sameG_true ha hc hl m (i + 1) (by omega) (by omega) (by omega)
    · simp only [sameG, ha, hc, if_pos hl, if_neg hi]
theorem same_ok {O : Mo} {a c : AV} {l : List Int} (ha : rdI O a = some l) (hc : rdI O c = some l) (hl : l.length ≤ 1000) : sameS [a, c] O = some (.bool true, O) := by
  have := sameG_true ha hc hl 1001 0 (by omega) (by omega) (by omega)
  simp only [sameS, ha, hc, if_pos hl, if_true, this]
/-- The gate's state is what it should be. -/
theorem looks_ok {O : Mo} {km kb : Nat} {W : List Int} {p t v : Int} {Q : List Int} {qv : AV} (h : MemW O km kb W) (g : GI (16 + 128 * p) t W v Q) (hp : 1 ≤ p ∧ p ≤ 511) (ht : 1 ≤ t ∧ t ≤ 17) (v0 : 0 ≤ v ∧ v ≤ 1000) (hq : (Q.length : Int) ≤ t)
    (hv : ∀ O', Ag O O' [] → rdI O' qv = some Q) : ∃ O', looksS [.agg [.int .i64 p, .int .i64 t], .ref 0 km 0, .int .i64 v, qv] O = some (.bool true, O') ∧ Ag O O' [] := by
  have M1 : MemW (O ++ [.arr [.int .i64 (16 + 128 * p), .int .i64 t]]) km kb W := h.ag (Ag.app _ _ []) (by simp) (by simp)
  have e1 := do_load (w := 13) M1 (by omega) g.ins
  have e2 := do_load (w := 14) M1 (by omega) g.fst
  have t1 : 1 ≤ t ∧ t ≤ 64 := by omega
  unfold acc at e1 e2
  cases Q with
  | nil =>
    have c0 : ¬ (0 : Int) < 0 := by omega
    have el : lookS [.iface 26 (.ref 0 km 0), .agg [.int .i64 p, .int .i64 t]] O = some (.tup [.agg [.int .i64 v, .nils], .int .i64 0], O ++ [.arr [.int .i64 (16 + 128 * p), .int .i64 t]]) := by
      simp only [lookS, dnodes_ok O p t hp ht, if_true, loadS, acc, e1, e2, if_pos v0, if_pos t1, lookA, hdA, if_neg c0]
    have hv1 := hv _ (Ag.app O [.arr [.int .i64 (16 + 128 * p), .int .i64 t]] [])
    have es := same_ok (rdI_nils (O ++ [.arr [.int .i64 (16 + 128 * p), .int .i64 t]])) hv1 (by simp)
    exact ⟨O ++ [.arr [.int .i64 (16 + 128 * p), .int .i64 t]], by simp only [looksS, el, if_true, rdI_nils, hv1, es], Ag.app _ _ _⟩
  | cons q Q =>
    have rq := g.rng q (by simp)
    have N1 : NodesO (O ++ [.arr [.int .i64 (16 + 128 * p), .int .i64 t]]) O.length (16 + 128 * p) t := ⟨app_last _ _, by omega, by omega, by omega, by omega, by omega⟩
    have b1 := N1.b1
    have n1 := node_ok N1 (r := rfA q) (by unfold rfA; omega) (by unfold rfA; omega)
    have n2 : nownerS [.ref 0 O.length 0, .int .i64 (rfA q - 1)] (O ++ [.arr [.int .i64 (16 + 128 * p), .int .i64 t]]) = some (.tup [.int .i64 q, .int .i64 0], O ++ [.arr [.int .i64 (16 + 128 * p), .int .i64 t]]) := by
      have a2 : ¬ rfA q - 1 < 0 := by unfold rfA; omega
      have a3 : rfA q - 1 < t * 2 := by unfold rfA; omega
      have a4 : (rfA q - 1) / 2 = q := by unfold rfA; omega
      simp only [nownerS, N1.o, if_pos t1, if_neg a2, if_pos a3, a4]
    have M2 : MemW (O ++ [.arr [.int .i64 (16 + 128 * p), .int .i64 t]] ++ [.buf 1 (ints [q])]) km kb W := M1.ag (Ag.app _ _ []) (by simp) (by simp)
    have N2 : NodesO (O ++ [.arr [.int .i64 (16 + 128 * p), .int .i64 t]] ++ [.buf 1 (ints [q])]) O.length (16 + 128 * p) t := N1.ag (Ag.app _ _ []) (by simp)
    have n3 := next_ok N2 (nd := rfA q - 1) (by unfold rfA; omega) (by unfold rfA; omega)
    have hx : W[(16 + 128 * p + (rfA q - 1) * 3).toNat]? = some (hdA Q) := by
      have := hd_link g
      unfold nxA at this
      unfold rfA
      rw [show 16 + 128 * p + (q * 2 + 1 + 1 - 1) * 3 = 16 + 128 * p + (q * 2 + 1) * 3 by omega]
      exact this
    have e4 := do_load M2 (w := 16 + 128 * p + (rfA q - 1) * 3) (by unfold rfA; omega) hx
    unfold acc at e4
    have hlen : (O ++ [ABlk.arr [.int .i64 (16 + 128 * p), .int .i64 t]]).length = O.length + 1 := by simp
    obtain ⟨O', e5, g5, k5, l5⟩ := lookB_ok (p := p) (v := v) (kq := O.length + 1) Q 99 [q] 1 _ (by simp at hq; omega) M2 N2 (by rw [← hlen]; exact app_last _ _) rfl (by simp at hq ⊢; omega) (by have := lt_of_get h.b; omega) (by
      have := g.lnk
      cases Q with
      | nil => trivial
      | cons r l => exact this.2) (fun x hx => g.rng x (by simp [hx]))
    have c1 : (0 : Int) < rfA q := by unfold rfA; omega
    have el : lookS [.iface 26 (.ref 0 km 0), .agg [.int .i64 p, .int .i64 t]] O = some (.tup [.agg [.int .i64 v, .bref 0 (O.length + 1) 0 (1 + Q.length) (1 + Q.length)], .int .i64 0], O') := by
      simp only [lookS, dnodes_ok O p t hp ht, if_true, loadS, acc, e1, e2, if_pos v0, if_pos t1, lookA, hdA, if_pos c1, n1, n2, n3, e4, hlen]
      exact e5
    have G : Ag O O' [] := by
      refine ⟨by rw [l5]; simp, fun j hj _ => ?_⟩
      rw [g5.2 j (by simp; omega) (by simp; omega), List.getElem?_append_left (by simp; omega), List.getElem?_append_left hj]
    have hv1 := hv _ G
    have hv2 : rdI O' (.bref 0 (O.length + 1) 0 (1 + Q.length) (1 + Q.length)) = some (q :: Q) := rdI_bref k5 (by simp; omega)
    have es := same_ok hv2 hv1 (by simp at hq ⊢; omega)
    exact ⟨O', by simp only [looksS, el, if_true, hv2, hv1, es], G⟩
end Den
