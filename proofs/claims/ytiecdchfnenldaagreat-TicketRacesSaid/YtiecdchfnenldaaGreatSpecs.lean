/- Contracts of a memory's accesses, and of an arena of one access. -/
import Derived.Test.YtiecdchfnenldaaGreatMemC
import Derived.Test.YtiecdchfnenldaaGreatDenG6
import Derived.Test.YtiecdchfnenldaaGreatCodeW
import Derived.Test.YtiecdchfnenldaaGreatDenTop2
import Derived.Test.YtiecdchfnenldaaGreatL

set_option maxRecDepth 100000
set_option maxHeartbeats 1000000
set_option linter.unusedSimpArgs false
set_option linter.unusedVariables false
namespace Den
open Go Go.Proofs

/-- mem.Mem.Load -/
def loadS : Sp := fun args O =>
  match args with
  | [.ref 0 k off, .int .i64 w] => match doS [.ref 0 k off, acc 1 w 0 0] O with
    | some (.tup [.agg [.int .i64 _, .int .i64 _, .int .u64 b, .int .u64 _], .int .i64 e], O') => some (.tup [.int .u64 b, .int .i64 e], O')
    | _ => none
  | _ => none
theorem loadS_ok : SpOk Tryz.prog 52 loadS := by
  intro args O r O' h S
  unfold loadS at h
  repeat' (split at h)
  all_goals first | (cases h; done) | skip
  all_goals
    simp only [Option.some.injEq, Prod.mk.injEq] at h
    obtain ⟨rfl, rfl⟩ := h
    refine bodyA (tabC_cons doS_ok (tabC_nil _)) (n := 0) F52_code ?_
    try simp only [acc, accZ, errA] at *
    simp (disch := first | decide | omega | assumption) only [F52, RAs, RBs, RCs, RDs, REs, RFs, RGs, RHs, RIs, RJs, RKs, RLs, RRt, Nat.reduceLT, Nat.reduceEqDiff, Nat.reduceAdd, Nat.reduceSub, RXa, RXb, RXc, acc, accZ, errA, *]

/-- mem.Mem.Store -/
def storeS : Sp := fun args O =>
  match args with
  | [.ref 0 k off, .int .i64 w, .int .u64 v] => match doS [.ref 0 k off, acc 2 w 0 v] O with
    | some (.tup [.agg [.int .i64 _, .int .i64 _, .int .u64 _, .int .u64 _], .int .i64 e], O') => some (.int .i64 e, O')
    | _ => none
  | _ => none
theorem storeS_ok : SpOk Tryz.prog 48 storeS := by
  intro args O r O' h S
  unfold storeS at h
  repeat' (split at h)
  all_goals first | (cases h; done) | skip
  all_goals
    simp only [Option.some.injEq, Prod.mk.injEq] at h
    obtain ⟨rfl, rfl⟩ := h
    refine bodyA (tabC_cons doS_ok (tabC_nil _)) (n := 0) F48_code ?_
    try simp only [acc, accZ, errA] at *
    simp (disch := first | decide | omega | assumption) only [F48, RAs, RBs, RCs, RDs, REs, RFs, RGs, RHs, RIs, RJs, RKs, RLs, RRt, Nat.reduceLT, Nat.reduceEqDiff, Nat.reduceAdd, Nat.reduceSub, RXa, RXb, RXc, acc, accZ, errA, *]

/-- mem.NewOnce -/
def newOnceS : Sp := fun args O =>
  match args with
  | [.ref 0 k off] => match zeroS [.ref 0 k off] O with
    | some (.bool true, O') => some (.tup [.nilp, .int .i64 1], O')
    | some (.bool false, O') => some (.tup [.ref 0 O'.length 0, .int .i64 0], O' ++ [.arr [.ref 0 k off, .int .i64 0, .int .i64 0, .int .u64 0, .int .u64 0]])
    | _ => none
  | _ => none
theorem newOnceS_ok : SpOk Tryz.prog 101 newOnceS := by
  intro args O r O' h S
  unfold newOnceS at h
  repeat' (split at h)
  all_goals first | (cases h; done) | skip
  all_goals
    simp only [Option.some.injEq, Prod.mk.injEq] at h
    obtain ⟨rfl, rfl⟩ := h
    refine bodyA (tabC_cons zeroS_ok (tabC_nil _)) (n := 0) F101_code ?_
    try simp only [acc, accZ, errA] at *
    simp (disch := first | decide | omega | assumption) only [F101, RAs, RBs, RCs, RDs, REs, RFs, RGs, RHs, RIs, RJs, RKs, RLs, RRt, Nat.reduceLT, Nat.reduceEqDiff, Nat.reduceAdd, Nat.reduceSub, RXa, RXb, RXc, acc, accZ, errA, *]

/-- mem.Once.zero -/
def onceZeroS : Sp := fun args O =>
  match args with
  | [.ref 0 k 0] => match O[k]? with
    | some (.arr [.ref 0 _ _, .int .i64 _, .int .i64 _, .int .u64 _, .int .u64 _]) => some (.bool false, O)
    | _ => none
  | _ => none
theorem onceZeroS_ok : SpOk Tryz.prog 180 onceZeroS := by
  intro args O r O' h S
  unfold onceZeroS at h
  repeat' (split at h)
  all_goals first | (cases h; done) | skip
  all_goals
    simp only [Option.some.injEq, Prod.mk.injEq] at h
    obtain ⟨rfl, rfl⟩ := h
    refine bodyA (tabC_nil _) (n := 0) F180_code ?_
    try simp only [acc, accZ, errA] at *
    simp (disch := first | decide | omega | assumption) only [F180, RAs, RBs, RCs, RDs, REs, RFs, RGs, RHs, RIs, RJs, RKs, RLs, RRt, Nat.reduceLT, Nat.reduceEqDiff, Nat.reduceAdd, Nat.reduceSub, RXa, RXb, RXc, acc, accZ, errA, *]

/-- mem.Once.do -/
def onceDoS : Sp := fun args O =>
  match args with
  | [.ref 0 k 0, .agg [.int .i64 kd, .int .i64 w, .int .u64 b, .int .u64 a]] => match O[k]? with
    | some (.arr [.ref 0 km off, .int .i64 kd0, .int .i64 w0, .int .u64 b0, .int .u64 a0]) =>
      if kd0 = 0 then match doS [.ref 0 km off, acc kd w b a] O with
        | some (.tup [.agg [.int .i64 x0, .int .i64 x1, .int .u64 x2, .int .u64 x3], .int .i64 e], O') => match O'[k]? with
          | some (.arr [c0, c1, c2, c3, c4]) =>
            if e = 0 then some (.tup [acc x0 x1 x2 x3, .int .i64 e], O'.set k (.arr [c0, .int .i64 x0, .int .i64 x1, .int .u64 x2, .int .u64 x3]))
            else some (.tup [acc x0 x1 x2 x3, .int .i64 e], O')
          | _ => none
        | _ => none
      else some (errA 11, O)
    | _ => none
  | _ => none
theorem onceDoS_ok : SpOk Tryz.prog 179 onceDoS := by
  intro args O r O' h S
  unfold onceDoS at h
  repeat' (split at h)
  all_goals first | (cases h; done) | skip
  all_goals
    simp only [Option.some.injEq, Prod.mk.injEq] at h
    obtain ⟨rfl, rfl⟩ := h
    refine bodyA (tabC_cons onceZeroS_ok (tabC_cons doS_ok (tabC_nil _))) (n := 0) F179_code ?_
    try simp only [acc, accZ, errA] at *
    simp (disch := first | decide | omega | assumption) only [F179, RAs, RBs, RCs, RDs, REs, RFs, RGs, RHs, RIs, RJs, RKs, RLs, RRt, Nat.reduceLT, Nat.reduceEqDiff, Nat.reduceAdd, Nat.reduceSub, RXa, RXb, RXc, acc, accZ, errA, onceZeroS, *]

end Den

/- Contracts of the queue nodes, and of the plain queue lock's programs. -/
set_option maxRecDepth 100000
set_option maxHeartbeats 2000000
set_option linter.unusedSimpArgs false
set_option linter.unusedVariables false
namespace Den
open Go Go.Proofs

/-- Methods by their types. -/
theorem methR : cfgA.meth 162 "Load" = some 176 ∧ mok Tryz.prog 162 "Load" = true ∧ cfgA.meth 162 "Store" = some 177 ∧ mok Tryz.prog 162 "Store" = true ∧ cfgA.meth 162 "CAS" = some 174 ∧ mok Tryz.prog 162 "CAS" = true ∧ cfgA.meth 162 "Swap" = some 178 ∧ mok Tryz.prog 162 "Swap" = true ∧ cfgA.meth 156 "Step" = some 162 ∧ mok Tryz.prog 156 "Step" = true ∧ cfgA.meth 156 "Done" = some 160 ∧ mok Tryz.prog 156 "Done" = true ∧ cfgA.meth 156 "Copy" = some 159 ∧ mok Tryz.prog 156 "Copy" = true ∧ cfgA.meth 159 "Step" = some 173 ∧ mok Tryz.prog 159 "Step" = true ∧ cfgA.meth 159 "Done" = some 171 ∧ mok Tryz.prog 159 "Done" = true ∧ cfgA.meth 159 "Copy" = some 170 ∧ mok Tryz.prog 159 "Copy" = true := ⟨by kernel_rfl, by kernel_rfl, by kernel_rfl, by kernel_rfl, by kernel_rfl, by kernel_rfl, by kernel_rfl, by kernel_rfl, by kernel_rfl, by kernel_rfl, by kernel_rfl, by kernel_rfl, by kernel_rfl, by kernel_rfl, by kernel_rfl, by kernel_rfl, by kernel_rfl, by kernel_rfl, by kernel_rfl, by kernel_rfl⟩

/-- mem.Once.Load -/
def onceLoadS : Sp := fun args O =>
  match args with
  | [.ref 0 k 0, .int .i64 w] => match onceDoS [.ref 0 k 0, acc 1 w 0 0] O with
    | some (.tup [.agg [.int .i64 _, .int .i64 _, .int .u64 b, .int .u64 _], .int .i64 e], O') => some (.tup [.int .u64 b, .int .i64 e], O')
    | _ => none
  | _ => none
theorem onceLoadS_ok : SpOk Tryz.prog 176 onceLoadS := by
  intro args O r O' h S
  unfold onceLoadS at h
  repeat' (split at h)
  all_goals first | (cases h; done) | skip
  all_goals
    simp only [Option.some.injEq, Prod.mk.injEq] at h
    obtain ⟨rfl, rfl⟩ := h
    refine bodyA (tabC_cons onceDoS_ok (tabC_nil _)) (n := 0) F176_code ?_
    try simp only [acc, accZ, errA] at *
    simp (disch := first | decide | omega | assumption) only [F176, RAs, RBs, RCs, RDs, REs, RFs, RGs, RHs, RIs, RJs, RKs, RLs, RRt, Nat.reduceLT, Nat.reduceEqDiff, Nat.reduceAdd, Nat.reduceSub, RXa, RXb, RXc, methR, acc, accZ, errA, *]

/-- mem.Once.Store -/
def onceStoreS : Sp := fun args O =>
  match args with
  | [.ref 0 k 0, .int .i64 w, .int .u64 v] => match onceDoS [.ref 0 k 0, acc 2 w 0 v] O with
    | some (.tup [.agg [.int .i64 _, .int .i64 _, .int .u64 _, .int .u64 _], .int .i64 e], O') => some (.int .i64 e, O')
    | _ => none
  | _ => none
theorem onceStoreS_ok : SpOk Tryz.prog 177 onceStoreS := by
  intro args O r O' h S
  unfold onceStoreS at h
  repeat' (split at h)
  all_goals first | (cases h; done) | skip
  all_goals
    simp only [Option.some.injEq, Prod.mk.injEq] at h
    obtain ⟨rfl, rfl⟩ := h
    refine bodyA (tabC_cons onceDoS_ok (tabC_nil _)) (n := 0) F177_code ?_
    try simp only [acc, accZ, errA] at *
    simp (disch := first | decide | omega | assumption) only [F177, RAs, RBs, RCs, RDs, REs, RFs, RGs, RHs, RIs, RJs, RKs, RLs, RRt, Nat.reduceLT, Nat.reduceEqDiff, Nat.reduceAdd, Nat.reduceSub, RXa, RXb, RXc, methR, acc, accZ, errA, *]

/-- mem.Once.Swap -/
def onceSwapS : Sp := fun args O =>
  match args with
  | [.ref 0 k 0, .int .i64 w, .int .u64 v] => match onceDoS [.ref 0 k 0, acc 4 w 0 v] O with
    | some (.tup [.agg [.int .i64 _, .int .i64 _, .int .u64 b, .int .u64 _], .int .i64 e], O') => some (.tup [.int .u64 b, .int .i64 e], O')
    | _ => none
  | _ => none
theorem onceSwapS_ok : SpOk Tryz.prog 178 onceSwapS := by
  intro args O r O' h S
  unfold onceSwapS at h
  repeat' (split at h)
  all_goals first | (cases h; done) | skip
  all_goals
    simp only [Option.some.injEq, Prod.mk.injEq] at h
    obtain ⟨rfl, rfl⟩ := h
    refine bodyA (tabC_cons onceDoS_ok (tabC_nil _)) (n := 0) F178_code ?_
    try simp only [acc, accZ, errA] at *
    simp (disch := first | decide | omega | assumption) only [F178, RAs, RBs, RCs, RDs, REs, RFs, RGs, RHs, RIs, RJs, RKs, RLs, RRt, Nat.reduceLT, Nat.reduceEqDiff, Nat.reduceAdd, Nat.reduceSub, RXa, RXb, RXc, methR, acc, accZ, errA, *]

/-- mem.Once.CAS -/
def onceCasS : Sp := fun args O =>
  match args with
  | [.ref 0 k 0, .int .i64 w, .int .u64 old, .int .u64 v] => match onceDoS [.ref 0 k 0, acc 3 w old v] O with
    | some (.tup [.agg [.int .i64 _, .int .i64 _, .int .u64 b, .int .u64 _], .int .i64 e], O') =>
      if e = 0 then (if b = old then some (.tup [.bool true, .int .i64 e], O') else some (.tup [.bool false, .int .i64 e], O'))
      else some (.tup [.bool false, .int .i64 e], O')
    | _ => none
  | _ => none
theorem onceCasS_ok : SpOk Tryz.prog 174 onceCasS := by
  intro args O r O' h S
  unfold onceCasS at h
  repeat' (split at h)
  all_goals first | (cases h; done) | skip
  all_goals
    simp only [Option.some.injEq, Prod.mk.injEq] at h
    obtain ⟨rfl, rfl⟩ := h
    refine bodyA (tabC_cons onceDoS_ok (tabC_nil _)) (n := 0) F174_code ?_
    try simp only [acc, accZ, errA] at *
    simp (disch := first | decide | omega | assumption) only [F174, RAs, RBs, RCs, RDs, REs, RFs, RGs, RHs, RIs, RJs, RKs, RLs, RRt, Nat.reduceLT, Nat.reduceEqDiff, Nat.reduceAdd, Nat.reduceSub, RXa, RXb, RXc, methR, acc, accZ, errA, *]

/-- qnode.Nodes.zero -/
def nzeroS : Sp := fun args O =>
  match args with
  | [.ref 0 k 0] => match O[k]? with
    | some (.arr [.int .i64 b, .int .i64 t]) => if 1 ≤ t then some (.bool false, O) else none
    | _ => none
  | _ => none
theorem nzeroS_ok : SpOk Tryz.prog 117 nzeroS := by
  intro args O r O' h S
  unfold nzeroS at h
  repeat' (split at h)
  all_goals first | (cases h; done) | skip
  all_goals
    simp only [Option.some.injEq, Prod.mk.injEq] at h
    obtain ⟨rfl, rfl⟩ := h
    refine bodyA (tabC_nil _) (n := 0) F117_code ?_
    try simp only [acc, accZ, errA] at *
    simp (disch := first | decide | omega | assumption) only [F117, RAs, RBs, RCs, RDs, REs, RFs, RGs, RHs, RIs, RJs, RKs, RLs, RRt, Nat.reduceLT, Nat.reduceEqDiff, Nat.reduceAdd, Nat.reduceSub, RXa, RXb, RXc, methR, acc, accZ, errA, *]

/-- qnode.Nodes.many -/
def nmanyS : Sp := fun args O =>
  match args with
  | [.ref 0 k 0] => match O[k]? with
    | some (.arr [.int .i64 b, .int .i64 t]) => if 1 ≤ t ∧ t ≤ 64 then some (.int .i64 (t * 2), O) else none
    | _ => none
  | _ => none
theorem nmanyS_ok : SpOk Tryz.prog 121 nmanyS := by
  intro args O r O' h S
  unfold nmanyS at h
  repeat' (split at h)
  all_goals first | (cases h; done) | skip
  all_goals
    simp only [Option.some.injEq, Prod.mk.injEq] at h
    obtain ⟨rfl, rfl⟩ := h
    refine bodyA (tabC_cons nzeroS_ok (tabC_nil _)) (n := 0) F121_code ?_
    try simp only [acc, accZ, errA] at *
    simp (disch := first | decide | omega | assumption) only [F121, RAs, RBs, RCs, RDs, REs, RFs, RGs, RHs, RIs, RJs, RKs, RLs, RRt, Nat.reduceLT, Nat.reduceEqDiff, Nat.reduceAdd, Nat.reduceSub, RXa, RXb, RXc, methR, acc, accZ, errA, nzeroS, *]

/-- qnode.Nodes.has -/
def nhasS : Sp := fun args O =>
  match args with
  | [.ref 0 k 0, .int .i64 n] => match O[k]? with
    | some (.arr [.int .i64 b, .int .i64 t]) => if 1 ≤ t ∧ t ≤ 64 then (if n < 0 then some (.bool false, O) else if n < t * 2 then some (.bool true, O) else some (.bool false, O)) else none
    | _ => none
  | _ => none
theorem nhasS_ok : SpOk Tryz.prog 118 nhasS := by
  intro args O r O' h S
  unfold nhasS at h
  repeat' (split at h)
  all_goals first | (cases h; done) | skip
  all_goals
    simp only [Option.some.injEq, Prod.mk.injEq] at h
    obtain ⟨rfl, rfl⟩ := h
    refine bodyA (tabC_cons nmanyS_ok (tabC_nil _)) (n := 0) F118_code ?_
    try simp only [acc, accZ, errA] at *
    simp (disch := first | decide | omega | assumption) only [F118, RAs, RBs, RCs, RDs, REs, RFs, RGs, RHs, RIs, RJs, RKs, RLs, RRt, Nat.reduceLT, Nat.reduceEqDiff, Nat.reduceAdd, Nat.reduceSub, RXa, RXb, RXc, methR, acc, accZ, errA, nmanyS, *]

/-- qnode.Nodes.word -/
def nwordS : Sp := fun args O =>
  match args with
  | [.ref 0 k 0, .int .i64 n, .int .i64 wh] => match O[k]? with
    | some (.arr [.int .i64 b, .int .i64 t]) => if 1 ≤ t ∧ t ≤ 64 ∧ 0 ≤ b ∧ b ≤ 65536 ∧ 0 ≤ wh ∧ wh ≤ 2 then (if n < 0 then some (.int .i64 (-1), O) else if n < t * 2 then some (.int .i64 (b + n * 3 + wh), O) else some (.int .i64 (-1), O)) else none
    | _ => none
  | _ => none
theorem nwordS_ok : SpOk Tryz.prog 116 nwordS := by
  intro args O r O' h S
  unfold nwordS at h
  repeat' (split at h)
  all_goals first | (cases h; done) | skip
  all_goals
    simp only [Option.some.injEq, Prod.mk.injEq] at h
    obtain ⟨rfl, rfl⟩ := h
    refine bodyA (tabC_cons nhasS_ok (tabC_nil _)) (n := 0) F116_code ?_
    try simp only [acc, accZ, errA] at *
    simp (disch := first | decide | omega | assumption) only [F116, RAs, RBs, RCs, RDs, REs, RFs, RGs, RHs, RIs, RJs, RKs, RLs, RRt, Nat.reduceLT, Nat.reduceEqDiff, Nat.reduceAdd, Nat.reduceSub, RXa, RXb, RXc, methR, acc, accZ, errA, nhasS, *]

/-- qnode.Nodes.Next -/
def nnextS : Sp := fun args O =>
  match args with
  | [.ref 0 k 0, .int .i64 n] => match nwordS [.ref 0 k 0, .int .i64 n, .int .i64 0] O with
    | some (.int .i64 w, O') => some (.int .i64 w, O')
    | _ => none
  | _ => none
theorem nnextS_ok : SpOk Tryz.prog 76 nnextS := by
  intro args O r O' h S
  unfold nnextS at h
  repeat' (split at h)
  all_goals first | (cases h; done) | skip
  all_goals
    simp only [Option.some.injEq, Prod.mk.injEq] at h
    obtain ⟨rfl, rfl⟩ := h
    refine bodyA (tabC_cons nwordS_ok (tabC_nil _)) (n := 0) F76_code ?_
    try simp only [acc, accZ, errA] at *
    simp (disch := first | decide | omega | assumption) only [F76, RAs, RBs, RCs, RDs, REs, RFs, RGs, RHs, RIs, RJs, RKs, RLs, RRt, Nat.reduceLT, Nat.reduceEqDiff, Nat.reduceAdd, Nat.reduceSub, RXa, RXb, RXc, methR, acc, accZ, errA, *]

/-- qnode.Nodes.Wait -/
def nwaitS : Sp := fun args O =>
  match args with
  | [.ref 0 k 0, .int .i64 n] => match nwordS [.ref 0 k 0, .int .i64 n, .int .i64 1] O with
    | some (.int .i64 w, O') => some (.int .i64 w, O')
    | _ => none
  | _ => none
theorem nwaitS_ok : SpOk Tryz.prog 75 nwaitS := by
  intro args O r O' h S
  unfold nwaitS at h
  repeat' (split at h)
  all_goals first | (cases h; done) | skip
  all_goals
    simp only [Option.some.injEq, Prod.mk.injEq] at h
    obtain ⟨rfl, rfl⟩ := h
    refine bodyA (tabC_cons nwordS_ok (tabC_nil _)) (n := 0) F75_code ?_
    try simp only [acc, accZ, errA] at *
    simp (disch := first | decide | omega | assumption) only [F75, RAs, RBs, RCs, RDs, REs, RFs, RGs, RHs, RIs, RJs, RKs, RLs, RRt, Nat.reduceLT, Nat.reduceEqDiff, Nat.reduceAdd, Nat.reduceSub, RXa, RXb, RXc, methR, acc, accZ, errA, *]

/-- qnode.Nodes.Ref -/
def nrefS : Sp := fun args O =>
  match args with
  | [.ref 0 k 0, .int .i64 n] => match O[k]? with
    | some (.arr [.int .i64 b, .int .i64 t]) => if 1 ≤ t ∧ t ≤ 64 then (if n < 0 then some (.tup [.int .u64 0, .int .i64 9], O) else if n < t * 2 then some (.tup [.int .u64 (n + 1), .int .i64 0], O) else some (.tup [.int .u64 0, .int .i64 9], O)) else none
    | _ => none
  | _ => none
theorem nrefS_ok : SpOk Tryz.prog 78 nrefS := by
  intro args O r O' h S
  unfold nrefS at h
  repeat' (split at h)
  all_goals first | (cases h; done) | skip
  all_goals
    simp only [Option.some.injEq, Prod.mk.injEq] at h
    obtain ⟨rfl, rfl⟩ := h
    refine bodyA (tabC_cons nzeroS_ok (tabC_cons nhasS_ok (tabC_nil _))) (n := 0) F78_code ?_
    try simp only [acc, accZ, errA] at *
    simp (disch := first | decide | omega | assumption) only [F78, RAs, RBs, RCs, RDs, REs, RFs, RGs, RHs, RIs, RJs, RKs, RLs, RRt, Nat.reduceLT, Nat.reduceEqDiff, Nat.reduceAdd, Nat.reduceSub, RXa, RXb, RXc, methR, acc, accZ, errA, nzeroS, nhasS, *]

/-- qnode.Nodes.Node -/
def nnodeS : Sp := fun args O =>
  match args with
  | [.ref 0 k 0, .int .u64 r] => match O[k]? with
    | some (.arr [.int .i64 b, .int .i64 t]) => if 1 ≤ t ∧ t ≤ 64 ∧ 0 ≤ r then (if t * 2 < r then some (.tup [.int .i64 0, .int .i64 12], O) else some (.tup [.int .i64 (r - 1), .int .i64 0], O)) else none
    | _ => none
  | _ => none
theorem nnodeS_ok : SpOk Tryz.prog 85 nnodeS := by
  intro args O r O' h S
  unfold nnodeS at h
  repeat' (split at h)
  all_goals first | (cases h; done) | skip
  all_goals
    simp only [Option.some.injEq, Prod.mk.injEq] at h
    obtain ⟨rfl, rfl⟩ := h
    refine bodyA (tabC_cons nzeroS_ok (tabC_cons nmanyS_ok (tabC_nil _))) (n := 0) F85_code ?_
    try simp only [acc, accZ, errA] at *
    simp (disch := first | decide | omega | assumption) only [F85, RAs, RBs, RCs, RDs, REs, RFs, RGs, RHs, RIs, RJs, RKs, RLs, RRt, Nat.reduceLT, Nat.reduceEqDiff, Nat.reduceAdd, Nat.reduceSub, RXa, RXb, RXc, methR, acc, accZ, errA, nzeroS, nmanyS, *]

/-- qnode.Nodes.Of -/
def nofS : Sp := fun args O =>
  match args with
  | [.ref 0 k 0, .int .i64 th, .int .i64 kd] => match O[k]? with
    | some (.arr [.int .i64 b, .int .i64 t]) => if 1 ≤ t ∧ t ≤ 64 ∧ 0 ≤ kd ∧ kd ≤ 1 then (if th < 0 then some (.tup [.int .i64 0, .int .i64 2], O) else if t ≤ th then some (.tup [.int .i64 0, .int .i64 2], O) else if kd = 0 then some (.tup [.int .i64 (th * 2 + kd), .int .i64 0], O) else some (.tup [.int .i64 (th * 2 + kd), .int .i64 0], O)) else none
    | _ => none
  | _ => none
theorem nofS_ok : SpOk Tryz.prog 97 nofS := by
  intro args O r O' h S
  unfold nofS at h
  repeat' (split at h)
  all_goals first | (cases h; done) | skip
  all_goals
    simp only [Option.some.injEq, Prod.mk.injEq] at h
    obtain ⟨rfl, rfl⟩ := h
    refine bodyA (tabC_cons nzeroS_ok (tabC_nil _)) (n := 0) F97_code ?_
    try simp only [acc, accZ, errA] at *
    simp (disch := first | decide | omega | assumption) only [F97, RAs, RBs, RCs, RDs, REs, RFs, RGs, RHs, RIs, RJs, RKs, RLs, RRt, Nat.reduceLT, Nat.reduceEqDiff, Nat.reduceAdd, Nat.reduceSub, RXa, RXb, RXc, methR, acc, accZ, errA, nzeroS, *]

/-- qnode.Nodes.Owner -/
def nownerS : Sp := fun args O =>
  match args with
  | [.ref 0 k 0, .int .i64 n] => match O[k]? with
    | some (.arr [.int .i64 b, .int .i64 t]) => if 1 ≤ t ∧ t ≤ 64 then (if n < 0 then some (.tup [.int .i64 0, .int .i64 9], O) else if n < t * 2 then some (.tup [.int .i64 (n / 2), .int .i64 0], O) else some (.tup [.int .i64 0, .int .i64 9], O)) else none
    | _ => none
  | _ => none
theorem nownerS_ok : SpOk Tryz.prog 86 nownerS := by
  intro args O r O' h S
  unfold nownerS at h
  repeat' (split at h)
  all_goals first | (cases h; done) | skip
  all_goals
    simp only [Option.some.injEq, Prod.mk.injEq] at h
    obtain ⟨rfl, rfl⟩ := h
    refine bodyA (tabC_cons nzeroS_ok (tabC_cons nhasS_ok (tabC_nil _))) (n := 0) F86_code ?_
    try simp only [acc, accZ, errA] at *
    simp (disch := first | decide | omega | assumption) only [F86, RAs, RBs, RCs, RDs, REs, RFs, RGs, RHs, RIs, RJs, RKs, RLs, RRt, Nat.reduceLT, Nat.reduceEqDiff, Nat.reduceAdd, Nat.reduceSub, RXa, RXb, RXc, methR, acc, accZ, errA, nzeroS, nhasS, *]

/-- mcs.run.ready -/
def mreadyS : Sp := fun args O =>
  match args with
  | [.ref 0 k 0, .iface _ _] => match O[k]? with
    | some (.arr [.ref 0 _ 0, .int .i64 _, .int .i64 _, .int .i64 _, .int .u64 _, .bool en]) => if en = true then some (.int .i64 17, O) else some (.int .i64 0, O)
    | _ => none
  | _ => none
theorem mreadyS_ok : SpOk Tryz.prog 165 mreadyS := by
  intro args O r O' h S
  unfold mreadyS at h
  repeat' (split at h)
  all_goals first | (cases h; done) | skip
  all_goals
    simp only [Option.some.injEq, Prod.mk.injEq] at h
    obtain ⟨rfl, rfl⟩ := h
    refine bodyA (tabC_nil _) (n := 0) F165_code ?_
    try simp only [acc, accZ, errA] at *
    simp (disch := first | decide | omega | assumption) only [F165, RAs, RBs, RCs, RDs, REs, RFs, RGs, RHs, RIs, RJs, RKs, RLs, RRt, Nat.reduceLT, Nat.reduceEqDiff, Nat.reduceAdd, Nat.reduceSub, RXa, RXb, RXc, methR, acc, accZ, errA, *]

/-- mcs.run.ref -/
def mrefS : Sp := fun args O =>
  match args with
  | [.ref 0 k 0] => match O[k]? with
    | some (.arr [.ref 0 kn 0, .int .i64 _, .int .i64 nd, .int .i64 _, .int .u64 _, .bool _]) => match nrefS [.ref 0 kn 0, .int .i64 nd] O with
      | some (.tup [.int .u64 r, .int .i64 _], O') => some (.int .u64 r, O')
      | _ => none
    | _ => none
  | _ => none
theorem mrefS_ok : SpOk Tryz.prog 167 mrefS := by
  intro args O r O' h S
  unfold mrefS at h
  repeat' (split at h)
  all_goals first | (cases h; done) | skip
  all_goals
    simp only [Option.some.injEq, Prod.mk.injEq] at h
    obtain ⟨rfl, rfl⟩ := h
    refine bodyA (tabC_cons nrefS_ok (tabC_nil _)) (n := 0) F167_code ?_
    try simp only [acc, accZ, errA] at *
    simp (disch := first | decide | omega | assumption) only [F167, RAs, RBs, RCs, RDs, REs, RFs, RGs, RHs, RIs, RJs, RKs, RLs, RRt, Nat.reduceLT, Nat.reduceEqDiff, Nat.reduceAdd, Nat.reduceSub, RXa, RXb, RXc, methR, acc, accZ, errA, *]

/-- mcs.run.target -/
def mtargetS : Sp := fun args O =>
  match args with
  | [.ref 0 k 0] => match O[k]? with
    | some (.arr [.ref 0 kn 0, .int .i64 _, .int .i64 _, .int .i64 _, .int .u64 ot, .bool _]) => match nnodeS [.ref 0 kn 0, .int .u64 ot] O with
      | some (.tup [.int .i64 n, .int .i64 e], O') => if e = 0 then (if n < 0 then some (.tup [.int .i64 0, .int .i64 12], O') else some (.tup [.int .i64 n, .int .i64 0], O')) else some (.tup [.int .i64 0, .int .i64 12], O')
      | _ => none
    | _ => none
  | _ => none
theorem mtargetS_ok : SpOk Tryz.prog 169 mtargetS := by
  intro args O r O' h S
  unfold mtargetS at h
  repeat' (split at h)
  all_goals first | (cases h; done) | skip
  all_goals
    simp only [Option.some.injEq, Prod.mk.injEq] at h
    obtain ⟨rfl, rfl⟩ := h
    refine bodyA (tabC_cons nnodeS_ok (tabC_nil _)) (n := 0) F169_code ?_
    try simp only [acc, accZ, errA] at *
    simp (disch := first | decide | omega | assumption) only [F169, RAs, RBs, RCs, RDs, REs, RFs, RGs, RHs, RIs, RJs, RKs, RLs, RRt, Nat.reduceLT, Nat.reduceEqDiff, Nat.reduceAdd, Nat.reduceSub, RXa, RXb, RXc, methR, acc, accZ, errA, *]

/-- mcs.run.goes -/
def mgoesS : Sp := fun args O =>
  match args with
  | [.ref 0 k 0, .int .i64 e, .int .i64 pc] => match O[k]? with
    | some (.arr [.ref 0 kn 0, .int .i64 lk, .int .i64 nd, .int .i64 pc0, .int .u64 ot, .bool en]) =>
      if e = 0 then some (.tup [.bool false, .int .i64 e], O.set k (.arr [.ref 0 kn 0, .int .i64 lk, .int .i64 nd, .int .i64 pc, .int .u64 ot, .bool en]))
      else some (.tup [.bool false, .int .i64 e], O)
    | _ => none
  | _ => none
theorem mgoesS_ok : SpOk Tryz.prog 166 mgoesS := by
  intro args O r O' h S
  unfold mgoesS at h
  repeat' (split at h)
  all_goals first | (cases h; done) | skip
  all_goals
    simp only [Option.some.injEq, Prod.mk.injEq] at h
    obtain ⟨rfl, rfl⟩ := h
    refine bodyA (tabC_nil _) (n := 0) F166_code ?_
    try simp only [acc, accZ, errA] at *
    simp (disch := first | decide | omega | assumption) only [F166, RAs, RBs, RCs, RDs, REs, RFs, RGs, RHs, RIs, RJs, RKs, RLs, RRt, Nat.reduceLT, Nat.reduceEqDiff, Nat.reduceAdd, Nat.reduceSub, RXa, RXb, RXc, methR, acc, accZ, errA, *]

/-- mcs.run.ends -/
def mendsS : Sp := fun args O =>
  match args with
  | [.ref 0 k 0, .int .i64 e] => match O[k]? with
    | some (.arr [.ref 0 kn 0, .int .i64 lk, .int .i64 nd, .int .i64 pc0, .int .u64 ot, .bool en]) =>
      if e = 0 then some (.tup [.bool false, .int .i64 e], O.set k (.arr [.ref 0 kn 0, .int .i64 lk, .int .i64 nd, .int .i64 pc0, .int .u64 ot, .bool true]))
      else some (.tup [.bool false, .int .i64 e], O.set k (.arr [.ref 0 kn 0, .int .i64 lk, .int .i64 nd, .int .i64 pc0, .int .u64 ot, .bool false]))
    | _ => none
  | _ => none
theorem mendsS_ok : SpOk Tryz.prog 168 mendsS := by
  intro args O r O' h S
  unfold mendsS at h
  repeat' (split at h)
  all_goals first | (cases h; done) | skip
  all_goals
    simp only [Option.some.injEq, Prod.mk.injEq] at h
    obtain ⟨rfl, rfl⟩ := h
    refine bodyA (tabC_nil _) (n := 0) F168_code ?_
    try simp only [acc, accZ, errA] at *
    simp (disch := first | decide | omega | assumption) only [F168, RAs, RBs, RCs, RDs, REs, RFs, RGs, RHs, RIs, RJs, RKs, RLs, RRt, Nat.reduceLT, Nat.reduceEqDiff, Nat.reduceAdd, Nat.reduceSub, RXa, RXb, RXc, methR, acc, accZ, errA, *]

/-- mcs.run.over -/
def moverS : Sp := fun args O =>
  match args with
  | [.ref 0 k 0] => match O[k]? with
    | some (.arr [.ref 0 _ 0, .int .i64 _, .int .i64 _, .int .i64 _, .int .u64 _, .bool en]) => some (.bool en, O)
    | _ => none
  | _ => none
theorem moverS_ok : SpOk Tryz.prog 163 moverS := by
  intro args O r O' h S
  unfold moverS at h
  repeat' (split at h)
  all_goals first | (cases h; done) | skip
  all_goals
    simp only [Option.some.injEq, Prod.mk.injEq] at h
    obtain ⟨rfl, rfl⟩ := h
    refine bodyA (tabC_nil _) (n := 0) F163_code ?_
    try simp only [acc, accZ, errA] at *
    simp (disch := first | decide | omega | assumption) only [F163, RAs, RBs, RCs, RDs, REs, RFs, RGs, RHs, RIs, RJs, RKs, RLs, RRt, Nat.reduceLT, Nat.reduceEqDiff, Nat.reduceAdd, Nat.reduceSub, RXa, RXb, RXc, methR, acc, accZ, errA, *]

/-- mcs.Acquire.Done -/
def acqDoneS : Sp := fun args O =>
  match args with
  | [.ref 0 k 0] => match moverS [.ref 0 k 0] O with
    | some (.bool b, O') => some (.bool b, O')
    | _ => none
  | _ => none
theorem acqDoneS_ok : SpOk Tryz.prog 160 acqDoneS := by
  intro args O r O' h S
  unfold acqDoneS at h
  repeat' (split at h)
  all_goals first | (cases h; done) | skip
  all_goals
    simp only [Option.some.injEq, Prod.mk.injEq] at h
    obtain ⟨rfl, rfl⟩ := h
    refine bodyA (tabC_cons moverS_ok (tabC_nil _)) (n := 0) F160_code ?_
    try simp only [acc, accZ, errA] at *
    simp (disch := first | decide | omega | assumption) only [F160, RAs, RBs, RCs, RDs, REs, RFs, RGs, RHs, RIs, RJs, RKs, RLs, RRt, Nat.reduceLT, Nat.reduceEqDiff, Nat.reduceAdd, Nat.reduceSub, RXa, RXb, RXc, methR, acc, accZ, errA, *]

/-- mcs.Release.Done -/
def relDoneS : Sp := fun args O =>
  match args with
  | [.ref 0 k 0] => match moverS [.ref 0 k 0] O with
    | some (.bool b, O') => some (.bool b, O')
    | _ => none
  | _ => none
theorem relDoneS_ok : SpOk Tryz.prog 171 relDoneS := by
  intro args O r O' h S
  unfold relDoneS at h
  repeat' (split at h)
  all_goals first | (cases h; done) | skip
  all_goals
    simp only [Option.some.injEq, Prod.mk.injEq] at h
    obtain ⟨rfl, rfl⟩ := h
    refine bodyA (tabC_cons moverS_ok (tabC_nil _)) (n := 0) F171_code ?_
    try simp only [acc, accZ, errA] at *
    simp (disch := first | decide | omega | assumption) only [F171, RAs, RBs, RCs, RDs, REs, RFs, RGs, RHs, RIs, RJs, RKs, RLs, RRt, Nat.reduceLT, Nat.reduceEqDiff, Nat.reduceAdd, Nat.reduceSub, RXa, RXb, RXc, methR, acc, accZ, errA, *]

end Den

/- Contracts of the plain queue lock's steps. -/
set_option maxRecDepth 100000
set_option maxHeartbeats 4000000
set_option linter.unusedSimpArgs false
set_option linter.unusedVariables false
namespace Den
open Go Go.Proofs

/-- mcs.Acquire.Step -/
def acqStepS : Sp := fun args O =>
  match args with
  | [.ref 0 k 0, .iface 162 (.ref 0 ko 0)] =>
    (match O[k]? with
    | some (.arr [.ref 0 kn 0, .int .i64 lk, .int .i64 nd, .int .i64 pc, .int .u64 ot, .bool en]) => (
    if en = true then
      some (.tup [.bool false, .int .i64 17], O)
    else if pc = 1 then
      (match nnextS [.ref 0 kn 0, .int .i64 nd] O with
      | some (.int .i64 w, O1) => (
      (match onceStoreS [.ref 0 ko 0, .int .i64 w, .int .u64 0] O1 with
      | some (.int .i64 e, O2) => (
      (match mgoesS [.ref 0 k 0, .int .i64 e, .int .i64 2] O2 with
      | some (.tup [.bool b, .int .i64 e1], O3) => (
      some (.tup [.bool b, .int .i64 e1], O3))
      | _ => none))
      | _ => none))
      | _ => none)
    else if pc = 2 then
      (match nwaitS [.ref 0 kn 0, .int .i64 nd] O with
      | some (.int .i64 w, O4) => (
      (match onceStoreS [.ref 0 ko 0, .int .i64 w, .int .u64 1] O4 with
      | some (.int .i64 e, O5) => (
      (match mgoesS [.ref 0 k 0, .int .i64 e, .int .i64 3] O5 with
      | some (.tup [.bool b, .int .i64 e1], O6) => (
      some (.tup [.bool b, .int .i64 e1], O6))
      | _ => none))
      | _ => none))
      | _ => none)
    else if pc = 3 then
      (match mrefS [.ref 0 k 0] O with
      | some (.int .u64 r, O7) => (
      (match O7[k]? with
      | some (.arr [.ref 0 kn' 0, .int .i64 lk', .int .i64 nd', .int .i64 pc', .int .u64 ot', .bool en']) => (
      if lk' = lk then
        (match onceSwapS [.ref 0 ko 0, .int .i64 lk, .int .u64 r] O7 with
        | some (.tup [.int .u64 x, .int .i64 e], O8) => (
        if x = 0 then
          (match mendsS [.ref 0 k 0, .int .i64 e] O8 with
          | some (.tup [.bool b, .int .i64 e1], O9) => (
          some (.tup [.bool b, .int .i64 e1], O9))
          | _ => none)
        else
          (match O8[k]? with
          | some (.arr [c0, c1, c2, c3, c4, c5]) => (
          match mgoesS [.ref 0 k 0, .int .i64 e, .int .i64 4] (O8.set k (.arr [c0, c1, c2, c3, .int .u64 x, c5])) with
          | some (.tup [.bool b, .int .i64 e1], Oz) => some (.tup [.bool b, .int .i64 e1], Oz)
          | _ => none)
          | _ => none))
        | _ => none)
      else none)
      | _ => none))
      | _ => none)
    else if pc = 4 then
      (match mtargetS [.ref 0 k 0] O with
      | some (.tup [.int .i64 kk, .int .i64 e], O10) => (
      if e = 0 then
        (match O10[k]? with
        | some (.arr [.ref 0 kn' 0, .int .i64 lk', .int .i64 nd', .int .i64 pc', .int .u64 ot', .bool en']) => (
        if kn' = kn then
          (match nnextS [.ref 0 kn 0, .int .i64 kk] O10 with
          | some (.int .i64 w, O11) => (
          (match mrefS [.ref 0 k 0] O11 with
          | some (.int .u64 r, O12) => (
          (match onceStoreS [.ref 0 ko 0, .int .i64 w, .int .u64 r] O12 with
          | some (.int .i64 e, O13) => (
          (match mgoesS [.ref 0 k 0, .int .i64 e, .int .i64 5] O13 with
          | some (.tup [.bool b, .int .i64 e1], O14) => (
          some (.tup [.bool b, .int .i64 e1], O14))
          | _ => none))
          | _ => none))
          | _ => none))
          | _ => none)
        else none)
        | _ => none)
      else
        some (.tup [.bool false, .int .i64 e], O10))
      | _ => none)
    else
      (match nwaitS [.ref 0 kn 0, .int .i64 nd] O with
      | some (.int .i64 w, O15) => (
      (match onceLoadS [.ref 0 ko 0, .int .i64 w] O15 with
      | some (.tup [.int .u64 x, .int .i64 e], O16) => (
      if e = 0 then
        if x = 0 then
          (match mendsS [.ref 0 k 0, .int .i64 0] O16 with
          | some (.tup [.bool b, .int .i64 e1], O17) => (
          some (.tup [.bool b, .int .i64 e1], O17))
          | _ => none)
        else
          some (.tup [.bool true, .int .i64 0], O16)
      else
        some (.tup [.bool false, .int .i64 e], O16))
      | _ => none))
      | _ => none))
    | _ => none)
  | _ => none
theorem acqStepS_ok : SpOk Tryz.prog 162 acqStepS := by
  intro args O r O' h S
  unfold acqStepS at h
  repeat' (split at h)
  all_goals first | (cases h; done) | skip
  all_goals
    simp only [Option.some.injEq, Prod.mk.injEq] at h
    obtain ⟨rfl, rfl⟩ := h
    refine bodyA (tabC_cons mreadyS_ok (tabC_cons nnextS_ok (tabC_cons nwaitS_ok (tabC_cons onceStoreS_ok (tabC_cons onceSwapS_ok (tabC_cons onceLoadS_ok (tabC_cons mgoesS_ok (tabC_cons mendsS_ok (tabC_cons mrefS_ok (tabC_cons mtargetS_ok (tabC_nil _))))))))))) (n := 0) F162_code ?_
    try simp only [acc, accZ, errA] at *
    simp (disch := first | decide | omega | assumption) only [F162, RAs, RBs, RCs, RDs, REs, RFs, RGs, RHs, RIs, RJs, RKs, RLs, RRt, Nat.reduceLT, Nat.reduceEqDiff, Nat.reduceAdd, Nat.reduceSub, RXa, RXb, RXc, methR, acc, accZ, errA, mreadyS, *]

/-- mcs.Release.Step -/
def relStepS : Sp := fun args O =>
  match args with
  | [.ref 0 k 0, .iface 162 (.ref 0 ko 0)] =>
    (match O[k]? with
    | some (.arr [.ref 0 kn 0, .int .i64 lk, .int .i64 nd, .int .i64 pc, .int .u64 ot, .bool en]) => (
    if en = true then
      some (.tup [.bool false, .int .i64 17], O)
    else if pc = 1 then
      (match nnextS [.ref 0 kn 0, .int .i64 nd] O with
      | some (.int .i64 w, O1) => (
      (match onceLoadS [.ref 0 ko 0, .int .i64 w] O1 with
      | some (.tup [.int .u64 x, .int .i64 e], O2) => (
      if e = 0 then
        (match O2[k]? with
        | some (.arr [c0, c1, c2, .int .i64 pc', c4, c5]) => (
        if x = 0 then
          if pc' = 1 then
            some (.tup [.bool false, .int .i64 0], O2.set k (.arr [c0, c1, c2, .int .i64 2, c4, c5]))
          else none
        else
          match mgoesS [.ref 0 k 0, .int .i64 0, .int .i64 4] (O2.set k (.arr [c0, c1, c2, .int .i64 pc', .int .u64 x, c5])) with
          | some (.tup [.bool b, .int .i64 e1], Oz) => some (.tup [.bool b, .int .i64 e1], Oz)
          | _ => none)
        | _ => none)
      else
        some (.tup [.bool false, .int .i64 e], O2))
      | _ => none))
      | _ => none)
    else if pc = 3 then
      (match nnextS [.ref 0 kn 0, .int .i64 nd] O with
      | some (.int .i64 w, O3) => (
      (match onceLoadS [.ref 0 ko 0, .int .i64 w] O3 with
      | some (.tup [.int .u64 x, .int .i64 e], O4) => (
      if e = 0 then
        (match O4[k]? with
        | some (.arr [c0, c1, c2, .int .i64 pc', c4, c5]) => (
        if x = 0 then
          if pc' = 3 then
            some (.tup [.bool true, .int .i64 0], O4.set k (.arr [c0, c1, c2, .int .i64 3, c4, c5]))
          else none
        else
          match mgoesS [.ref 0 k 0, .int .i64 0, .int .i64 4] (O4.set k (.arr [c0, c1, c2, .int .i64 pc', .int .u64 x, c5])) with
          | some (.tup [.bool b, .int .i64 e1], Oz) => some (.tup [.bool b, .int .i64 e1], Oz)
          | _ => none)
        | _ => none)
      else
        some (.tup [.bool false, .int .i64 e], O4))
      | _ => none))
      | _ => none)
    else if pc = 2 then
      (match mrefS [.ref 0 k 0] O with
      | some (.int .u64 r, O5) => (
      (match O5[k]? with
      | some (.arr [.ref 0 kn' 0, .int .i64 lk', .int .i64 nd', .int .i64 pc', .int .u64 ot', .bool en']) => (
      if lk' = lk then
        (match onceCasS [.ref 0 ko 0, .int .i64 lk, .int .u64 r, .int .u64 0] O5 with
        | some (.tup [.bool is, .int .i64 e], O6) => (
        if is = true then
          (match mendsS [.ref 0 k 0, .int .i64 e] O6 with
          | some (.tup [.bool b, .int .i64 e1], O7) => (
          some (.tup [.bool b, .int .i64 e1], O7))
          | _ => none)
        else
          (match mgoesS [.ref 0 k 0, .int .i64 e, .int .i64 3] O6 with
          | some (.tup [.bool b, .int .i64 e1], O8) => (
          some (.tup [.bool b, .int .i64 e1], O8))
          | _ => none))
        | _ => none)
      else none)
      | _ => none))
      | _ => none)
    else
      (match mtargetS [.ref 0 k 0] O with
      | some (.tup [.int .i64 kk, .int .i64 e], O9) => (
      if e = 0 then
        (match O9[k]? with
        | some (.arr [.ref 0 kn' 0, .int .i64 lk', .int .i64 nd', .int .i64 pc', .int .u64 ot', .bool en']) => (
        if kn' = kn then
          (match nwaitS [.ref 0 kn 0, .int .i64 kk] O9 with
          | some (.int .i64 w, O10) => (
          (match onceStoreS [.ref 0 ko 0, .int .i64 w, .int .u64 0] O10 with
          | some (.int .i64 e2, O11) => (
          (match mendsS [.ref 0 k 0, .int .i64 e2] O11 with
          | some (.tup [.bool b, .int .i64 e1], O12) => (
          some (.tup [.bool b, .int .i64 e1], O12))
          | _ => none))
          | _ => none))
          | _ => none)
        else none)
        | _ => none)
      else
        some (.tup [.bool false, .int .i64 e], O9))
      | _ => none))
    | _ => none)
  | _ => none
theorem relStepS_ok : SpOk Tryz.prog 173 relStepS := by
  intro args O r O' h S
  unfold relStepS at h
  repeat' (split at h)
  all_goals first | (cases h; done) | skip
  all_goals
    simp only [Option.some.injEq, Prod.mk.injEq] at h
    obtain ⟨rfl, rfl⟩ := h
    refine bodyA (tabC_cons mreadyS_ok (tabC_cons nnextS_ok (tabC_cons nwaitS_ok (tabC_cons onceStoreS_ok (tabC_cons onceCasS_ok (tabC_cons onceLoadS_ok (tabC_cons mgoesS_ok (tabC_cons mendsS_ok (tabC_cons mrefS_ok (tabC_cons mtargetS_ok (tabC_nil _))))))))))) (n := 0) F173_code ?_
    try simp only [acc, accZ, errA] at *
    simp (disch := first | decide | omega | assumption) only [F173, RAs, RBs, RCs, RDs, REs, RFs, RGs, RHs, RIs, RJs, RKs, RLs, RRt, Nat.reduceLT, Nat.reduceEqDiff, Nat.reduceAdd, Nat.reduceSub, RXa, RXb, RXc, methR, acc, accZ, errA, mreadyS, *]

end Den

/- Contracts of a layout's places, of the queue lock's beginnings. -/
set_option maxRecDepth 100000
set_option maxHeartbeats 2000000
set_option linter.unusedSimpArgs false
set_option linter.unusedVariables false
namespace Den
open Go Go.Proofs

/-- descend.valid -/
def dvalidS : Sp := fun args O =>
  match args with
  | [.agg [.int .i64 p, .int .i64 t]] => if p < 1 then some (.bool false, O) else if 511 < p then some (.bool false, O) else if t < 1 then some (.bool false, O) else if 17 < t then some (.bool false, O) else some (.bool true, O)
  | _ => none
theorem dvalidS_ok : SpOk Tryz.prog 88 dvalidS := by
  intro args O r O' h S
  unfold dvalidS at h
  repeat' (split at h)
  all_goals first | (cases h; done) | skip
  all_goals
    simp only [Option.some.injEq, Prod.mk.injEq] at h
    obtain ⟨rfl, rfl⟩ := h
    refine bodyA (tabC_nil _) (n := 0) F88_code ?_
    try simp only [acc, accZ, errA] at *
    simp (disch := first | decide | omega | assumption) only [F88, RAs, RBs, RCs, RDs, REs, RFs, RGs, RHs, RIs, RJs, RKs, RLs, RRt, Nat.reduceLT, Nat.reduceEqDiff, Nat.reduceAdd, Nat.reduceSub, RXa, RXb, RXc, methR, acc, accZ, errA, *]

/-- descend.nodes -/
def dnodesS : Sp := fun args O =>
  match args with
  | [.agg [.int .i64 p, .int .i64 t]] => if 1 ≤ p ∧ p ≤ 511 then some (.int .i64 (16 + 128 * p), O) else none
  | _ => none
theorem dnodesS_ok : SpOk Tryz.prog 89 dnodesS := by
  intro args O r O' h S
  unfold dnodesS at h
  repeat' (split at h)
  all_goals first | (cases h; done) | skip
  all_goals
    simp only [Option.some.injEq, Prod.mk.injEq] at h
    obtain ⟨rfl, rfl⟩ := h
    refine bodyA (tabC_nil _) (n := 0) F89_code ?_
    try simp only [acc, accZ, errA] at *
    simp (disch := first | decide | omega | assumption) only [F89, RAs, RBs, RCs, RDs, REs, RFs, RGs, RHs, RIs, RJs, RKs, RLs, RRt, Nat.reduceLT, Nat.reduceEqDiff, Nat.reduceAdd, Nat.reduceSub, RXa, RXb, RXc, methR, acc, accZ, errA, *]

/-- qnode.New -/
def nnewS : Sp := fun args O =>
  match args with
  | [.int .i64 b, .int .i64 t] =>
    if 0 ≤ b ∧ b ≤ 65424 ∧ 1 ≤ t ∧ t ≤ 17 then some (.tup [.ref 0 O.length 0, .int .i64 0], O ++ [.arr [.int .i64 b, .int .i64 t]]) else none
  | _ => none
theorem nnewS_ok : SpOk Tryz.prog 120 nnewS := by
  intro args O r O' h S
  unfold nnewS at h
  repeat' (split at h)
  all_goals first | (cases h; done) | skip
  all_goals
    simp only [Option.some.injEq, Prod.mk.injEq] at h
    obtain ⟨rfl, rfl⟩ := h
    refine bodyA (tabC_nil _) (n := 0) F120_code ?_
    try simp only [acc, accZ, errA] at *
    simp (disch := first | decide | omega | assumption) only [F120, RAs, RBs, RCs, RDs, REs, RFs, RGs, RHs, RIs, RJs, RKs, RLs, RRt, Nat.reduceLT, Nat.reduceEqDiff, Nat.reduceAdd, Nat.reduceSub, RXa, RXb, RXc, methR, acc, accZ, errA, *]

/-- descend.Nodes -/
def dNodesS : Sp := fun args O =>
  match args with
  | [.agg [.int .i64 p, .int .i64 t]] => if p < 1 then some (.tup [.nilp, .int .i64 2], O) else if 511 < p then some (.tup [.nilp, .int .i64 2], O) else if t < 1 then some (.tup [.nilp, .int .i64 2], O) else if 17 < t then some (.tup [.nilp, .int .i64 2], O) else some (.tup [.ref 0 O.length 0, .int .i64 0], O ++ [.arr [.int .i64 (16 + 128 * p), .int .i64 t]])
  | _ => none
theorem dNodesS_ok : SpOk Tryz.prog 84 dNodesS := by
  intro args O r O' h S
  unfold dNodesS at h
  repeat' (split at h)
  all_goals first | (cases h; done) | skip
  all_goals
    simp only [Option.some.injEq, Prod.mk.injEq] at h
    obtain ⟨rfl, rfl⟩ := h
    refine bodyA (tabC_cons dvalidS_ok (tabC_cons dnodesS_ok (tabC_cons nnewS_ok (tabC_nil _)))) (n := 0) F84_code ?_
    try simp only [acc, accZ, errA] at *
    simp (disch := first | decide | omega | assumption) only [F84, RAs, RBs, RCs, RDs, REs, RFs, RGs, RHs, RIs, RJs, RKs, RLs, RRt, Nat.reduceLT, Nat.reduceEqDiff, Nat.reduceAdd, Nat.reduceSub, RXa, RXb, RXc, methR, acc, accZ, errA, dvalidS, dnodesS, nnewS, *]

/-- qnode.Nodes.Base -/
def nbaseS : Sp := fun args O =>
  match args with
  | [.ref 0 k 0] => match O[k]? with
    | some (.arr [.int .i64 b, .int .i64 t]) => if 1 ≤ t then some (.int .i64 b, O) else none
    | _ => none
  | _ => none
theorem nbaseS_ok : SpOk Tryz.prog 100 nbaseS := by
  intro args O r O' h S
  unfold nbaseS at h
  repeat' (split at h)
  all_goals first | (cases h; done) | skip
  all_goals
    simp only [Option.some.injEq, Prod.mk.injEq] at h
    obtain ⟨rfl, rfl⟩ := h
    refine bodyA (tabC_cons nzeroS_ok (tabC_nil _)) (n := 0) F100_code ?_
    try simp only [acc, accZ, errA] at *
    simp (disch := first | decide | omega | assumption) only [F100, RAs, RBs, RCs, RDs, REs, RFs, RGs, RHs, RIs, RJs, RKs, RLs, RRt, Nat.reduceLT, Nat.reduceEqDiff, Nat.reduceAdd, Nat.reduceSub, RXa, RXb, RXc, methR, acc, accZ, errA, nzeroS, *]

/-- qnode.Nodes.Len -/
def nlenS : Sp := fun args O =>
  match args with
  | [.ref 0 k 0] => match O[k]? with
    | some (.arr [.int .i64 b, .int .i64 t]) => if 1 ≤ t ∧ t ≤ 64 then some (.int .i64 (t * 2 * 3), O) else none
    | _ => none
  | _ => none
theorem nlenS_ok : SpOk Tryz.prog 130 nlenS := by
  intro args O r O' h S
  unfold nlenS at h
  repeat' (split at h)
  all_goals first | (cases h; done) | skip
  all_goals
    simp only [Option.some.injEq, Prod.mk.injEq] at h
    obtain ⟨rfl, rfl⟩ := h
    refine bodyA (tabC_cons nmanyS_ok (tabC_nil _)) (n := 0) F130_code ?_
    try simp only [acc, accZ, errA] at *
    simp (disch := first | decide | omega | assumption) only [F130, RAs, RBs, RCs, RDs, REs, RFs, RGs, RHs, RIs, RJs, RKs, RLs, RRt, Nat.reduceLT, Nat.reduceEqDiff, Nat.reduceAdd, Nat.reduceSub, RXa, RXb, RXc, methR, acc, accZ, errA, nmanyS, *]

/-- qnode.Nodes.Threads -/
def nthreadsS : Sp := fun args O =>
  match args with
  | [.ref 0 k 0] => match O[k]? with
    | some (.arr [.int .i64 b, .int .i64 t]) => if 1 ≤ t ∧ t ≤ 64 then some (.int .i64 (t * 2 / 2), O) else none
    | _ => none
  | _ => none
theorem nthreadsS_ok : SpOk Tryz.prog 129 nthreadsS := by
  intro args O r O' h S
  unfold nthreadsS at h
  repeat' (split at h)
  all_goals first | (cases h; done) | skip
  all_goals
    simp only [Option.some.injEq, Prod.mk.injEq] at h
    obtain ⟨rfl, rfl⟩ := h
    refine bodyA (tabC_cons nmanyS_ok (tabC_nil _)) (n := 0) F129_code ?_
    try simp only [acc, accZ, errA] at *
    simp (disch := first | decide | omega | assumption) only [F129, RAs, RBs, RCs, RDs, REs, RFs, RGs, RHs, RIs, RJs, RKs, RLs, RRt, Nat.reduceLT, Nat.reduceEqDiff, Nat.reduceAdd, Nat.reduceSub, RXa, RXb, RXc, methR, acc, accZ, errA, nmanyS, *]

/-- mcs.made -/
def mmadeS : Sp := fun args O =>
  match args with
  | [.ref 0 k 0, .int .i64 lk, .int .i64 nd] => match O[k]? with
    | some (.arr [.int .i64 b, .int .i64 t]) => if 1 ≤ t ∧ t ≤ 64 ∧ 0 ≤ lk ∧ lk < 16 ∧ 16 ≤ b ∧ b ≤ 65536 ∧ 0 ≤ nd ∧ nd < t * 2 then some (.tup [.agg [.ref 0 k 0, .int .i64 lk, .int .i64 nd, .int .i64 1, .int .u64 0, .bool false], .int .i64 0], O) else none
    | _ => none
  | _ => none
theorem mmadeS_ok : SpOk Tryz.prog 122 mmadeS := by
  intro args O r O' h S
  unfold mmadeS at h
  repeat' (split at h)
  all_goals first | (cases h; done) | skip
  all_goals
    simp only [Option.some.injEq, Prod.mk.injEq] at h
    obtain ⟨rfl, rfl⟩ := h
    refine bodyA (tabC_cons nthreadsS_ok (tabC_cons nbaseS_ok (tabC_cons nlenS_ok (tabC_cons nownerS_ok (tabC_nil _))))) (n := 0) F122_code ?_
    try simp only [acc, accZ, errA] at *
    simp (disch := first | decide | omega | assumption) only [F122, RAs, RBs, RCs, RDs, REs, RFs, RGs, RHs, RIs, RJs, RKs, RLs, RRt, Nat.reduceLT, Nat.reduceEqDiff, Nat.reduceAdd, Nat.reduceSub, RXa, RXb, RXc, methR, acc, accZ, errA, nthreadsS, nbaseS, nlenS, nownerS, *]

/-- mcs.NewAcquire -/
def newAcqS : Sp := fun args O =>
  match args with
  | [.ref 0 k 0, .int .i64 lk, .int .i64 nd] =>
    (match mmadeS [.ref 0 k 0, .int .i64 lk, .int .i64 nd] O with
    | some (.tup [.agg [.ref 0 k' 0, .int .i64 a, .int .i64 b, .int .i64 c, .int .u64 d, .bool e], .int .i64 0], O1) => (
    some (.tup [.ref 0 O1.length 0, .int .i64 0], O1 ++ [.arr [.ref 0 k' 0, .int .i64 a, .int .i64 b, .int .i64 c, .int .u64 d, .bool e]]))
    | _ => none)
  | _ => none
theorem newAcqS_ok : SpOk Tryz.prog 98 newAcqS := by
  intro args O r O' h S
  unfold newAcqS at h
  repeat' (split at h)
  all_goals first | (cases h; done) | skip
  all_goals
    simp only [Option.some.injEq, Prod.mk.injEq] at h
    obtain ⟨rfl, rfl⟩ := h
    refine bodyA (tabC_cons mmadeS_ok (tabC_nil _)) (n := 0) F98_code ?_
    try simp only [acc, accZ, errA] at *
    simp (disch := first | decide | omega | assumption) only [F98, RAs, RBs, RCs, RDs, REs, RFs, RGs, RHs, RIs, RJs, RKs, RLs, RRt, Nat.reduceLT, Nat.reduceEqDiff, Nat.reduceAdd, Nat.reduceSub, RXa, RXb, RXc, methR, acc, accZ, errA, *]

/-- mcs.NewRelease -/
def newRelS : Sp := fun args O =>
  match args with
  | [.ref 0 k 0, .int .i64 lk, .int .i64 nd] =>
    (match mmadeS [.ref 0 k 0, .int .i64 lk, .int .i64 nd] O with
    | some (.tup [.agg [.ref 0 k' 0, .int .i64 a, .int .i64 b, .int .i64 c, .int .u64 d, .bool e], .int .i64 0], O1) => (
    some (.tup [.ref 0 O1.length 0, .int .i64 0], O1 ++ [.arr [.ref 0 k' 0, .int .i64 a, .int .i64 b, .int .i64 c, .int .u64 d, .bool e]]))
    | _ => none)
  | _ => none
theorem newRelS_ok : SpOk Tryz.prog 99 newRelS := by
  intro args O r O' h S
  unfold newRelS at h
  repeat' (split at h)
  all_goals first | (cases h; done) | skip
  all_goals
    simp only [Option.some.injEq, Prod.mk.injEq] at h
    obtain ⟨rfl, rfl⟩ := h
    refine bodyA (tabC_cons mmadeS_ok (tabC_nil _)) (n := 0) F99_code ?_
    try simp only [acc, accZ, errA] at *
    simp (disch := first | decide | omega | assumption) only [F99, RAs, RBs, RCs, RDs, REs, RFs, RGs, RHs, RIs, RJs, RKs, RLs, RRt, Nat.reduceLT, Nat.reduceEqDiff, Nat.reduceAdd, Nat.reduceSub, RXa, RXb, RXc, methR, acc, accZ, errA, *]

end Den

/- Contracts of the tickets: the program that takes one, and the counter. -/
set_option maxRecDepth 100000
set_option maxHeartbeats 4000000
set_option linter.unusedSimpArgs false
set_option linter.unusedVariables false
namespace Den
open Go Go.Proofs

/-- ticket.NewDraw -/
def newDrawS : Sp := fun args O =>
  match args with
  | [.agg [.int .i64 p, .int .i64 t], .int .i64 th] =>
    match dNodesS [.agg [.int .i64 p, .int .i64 t]] O with
    | some (.tup [.nilp, .int .i64 e], Oa) => if e = 0 then none else some (.tup [.nilp, .int .i64 2], Oa)
    | some (.tup [.ref 0 kn 0, .int .i64 e], Oa) =>
      if e = 0 then
        if th < 0 then some (.tup [.nilp, .int .i64 2], Oa)
        else if t ≤ th then some (.tup [.nilp, .int .i64 2], Oa)
        else
          match nofS [.ref 0 kn 0, .int .i64 th, .int .i64 0] Oa with
          | some (.tup [.int .i64 nd, .int .i64 _], Ob) =>
            match newAcqS [.ref 0 kn 0, .int .i64 5, .int .i64 nd] Ob with
            | some (.tup [.ref 0 ka 0, .int .i64 e1], Oc) =>
              if e1 = 0 then
                match newRelS [.ref 0 kn 0, .int .i64 5, .int .i64 nd] Oc with
                | some (.tup [.ref 0 kr 0, .int .i64 e2], Od) =>
                  if e2 = 0 then some (.tup [.ref 0 Od.length 0, .int .i64 0], Od ++ [.arr [.int .i64 1, .iface 156 (.ref 0 ka 0), .iface 159 (.ref 0 kr 0), .int .u64 0]])
                  else none
                | _ => none
              else none
            | _ => none
          | _ => none
      else none
    | _ => none
  | _ => none
theorem newDrawS_ok : SpOk Tryz.prog 49 newDrawS := by
  intro args O r O' h S
  unfold newDrawS at h
  repeat' (split at h)
  all_goals first | (cases h; done) | skip
  all_goals
    simp only [Option.some.injEq, Prod.mk.injEq] at h
    obtain ⟨rfl, rfl⟩ := h
    refine bodyA (tabC_cons dNodesS_ok (tabC_cons nofS_ok (tabC_cons newAcqS_ok (tabC_cons newRelS_ok (tabC_nil _))))) (n := 0) F49_code ?_
    try simp only [acc, accZ, errA] at *
    simp (disch := first | decide | omega | assumption) only [F49, RAs, RBs, RCs, RDs, REs, RFs, RGs, RHs, RIs, RJs, RKs, RLs, RRt, Nat.reduceLT, Nat.reduceEqDiff, Nat.reduceAdd, Nat.reduceSub, RXa, RXb, RXc, methR, acc, accZ, errA, *]

/-- ticket.Draw.zero -/
def drawZeroS : Sp := fun args O =>
  match args with
  | [.ref 0 k 0] => match O[k]? with
    | some (.arr [.int .i64 st, .iface t1 (.ref 0 a 0), .iface t2 (.ref 0 b 0), .int .u64 n]) => if st = 0 then some (.bool true, O) else some (.bool false, O)
    | _ => none
  | _ => none
theorem drawZeroS_ok : SpOk Tryz.prog 102 drawZeroS := by
  intro args O r O' h S
  unfold drawZeroS at h
  repeat' (split at h)
  all_goals first | (cases h; done) | skip
  all_goals
    simp only [Option.some.injEq, Prod.mk.injEq] at h
    obtain ⟨rfl, rfl⟩ := h
    refine bodyA (tabC_nil _) (n := 0) F102_code ?_
    try simp only [acc, accZ, errA] at *
    simp (disch := first | decide | omega | assumption) only [F102, RAs, RBs, RCs, RDs, REs, RFs, RGs, RHs, RIs, RJs, RKs, RLs, RRt, Nat.reduceLT, Nat.reduceEqDiff, Nat.reduceAdd, Nat.reduceSub, RXa, RXb, RXc, methR, acc, accZ, errA, *]

/-- ticket.Draw.over -/
def drawOverS : Sp := fun args O =>
  match args with
  | [.ref 0 k 0] => match O[k]? with
    | some (.arr [.int .i64 st, .iface t1 (.ref 0 a 0), .iface t2 (.ref 0 b 0), .int .u64 n]) => if st = 0 then none else if st = 5 then some (.bool true, O) else some (.bool false, O)
    | _ => none
  | _ => none
theorem drawOverS_ok : SpOk Tryz.prog 103 drawOverS := by
  intro args O r O' h S
  unfold drawOverS at h
  repeat' (split at h)
  all_goals first | (cases h; done) | skip
  all_goals
    simp only [Option.some.injEq, Prod.mk.injEq] at h
    obtain ⟨rfl, rfl⟩ := h
    refine bodyA (tabC_cons drawZeroS_ok (tabC_nil _)) (n := 0) F103_code ?_
    try simp only [acc, accZ, errA] at *
    simp (disch := first | decide | omega | assumption) only [F103, RAs, RBs, RCs, RDs, REs, RFs, RGs, RHs, RIs, RJs, RKs, RLs, RRt, Nat.reduceLT, Nat.reduceEqDiff, Nat.reduceAdd, Nat.reduceSub, RXa, RXb, RXc, methR, acc, accZ, errA, drawZeroS, *]

/-- ticket.Draw.Done -/
def drawDoneS : Sp := fun args O =>
  match args with
  | [.ref 0 k 0] => match O[k]? with
    | some (.arr [.int .i64 st, .iface t1 (.ref 0 a 0), .iface t2 (.ref 0 b 0), .int .u64 n]) => if st = 0 then none else if st = 5 then some (.bool true, O) else some (.bool false, O)
    | _ => none
  | _ => none
theorem drawDoneS_ok : SpOk Tryz.prog 55 drawDoneS := by
  intro args O r O' h S
  unfold drawDoneS at h
  repeat' (split at h)
  all_goals first | (cases h; done) | skip
  all_goals
    simp only [Option.some.injEq, Prod.mk.injEq] at h
    obtain ⟨rfl, rfl⟩ := h
    refine bodyA (tabC_cons drawZeroS_ok (tabC_nil _)) (n := 0) F55_code ?_
    try simp only [acc, accZ, errA] at *
    simp (disch := first | decide | omega | assumption) only [F55, RAs, RBs, RCs, RDs, REs, RFs, RGs, RHs, RIs, RJs, RKs, RLs, RRt, Nat.reduceLT, Nat.reduceEqDiff, Nat.reduceAdd, Nat.reduceSub, RXa, RXb, RXc, methR, acc, accZ, errA, drawZeroS, *]

/-- ticket.Draw.Result -/
def drawResS : Sp := fun args O =>
  match args with
  | [.ref 0 k 0] => match O[k]? with
    | some (.arr [.int .i64 st, .iface t1 (.ref 0 a 0), .iface t2 (.ref 0 b 0), .int .u64 n]) => if st = 0 then none else if st = 5 then some (.int .u64 n, O) else some (.int .u64 0, O)
    | _ => none
  | _ => none
theorem drawResS_ok : SpOk Tryz.prog 56 drawResS := by
  intro args O r O' h S
  unfold drawResS at h
  repeat' (split at h)
  all_goals first | (cases h; done) | skip
  all_goals
    simp only [Option.some.injEq, Prod.mk.injEq] at h
    obtain ⟨rfl, rfl⟩ := h
    refine bodyA (tabC_cons drawOverS_ok (tabC_nil _)) (n := 0) F56_code ?_
    try simp only [acc, accZ, errA] at *
    simp (disch := first | decide | omega | assumption) only [F56, RAs, RBs, RCs, RDs, REs, RFs, RGs, RHs, RIs, RJs, RKs, RLs, RRt, Nat.reduceLT, Nat.reduceEqDiff, Nat.reduceAdd, Nat.reduceSub, RXa, RXb, RXc, methR, acc, accZ, errA, drawOverS, *]

/-- ticket.Draw.Step -/
def drawStepS : Sp := fun args O =>
  match args with
  | [.ref 0 k 0, .iface 162 (.ref 0 ko 0)] =>
    (match O[k]? with
    | some (.arr [.int .i64 st, .iface t1 (.ref 0 ka 0), .iface t2 (.ref 0 kb 0), .int .u64 nu]) => (
    if st = 0 then none
    else if st = 2 then
      (match onceLoadS [.ref 0 ko 0, .int .i64 7] O with
      | some (.tup [.int .u64 v, .int .i64 e], O1) => (
      if e = 0 then
        if 0 ≤ v ∧ v ≤ 4611686018427387904 then
          (match O1[k]? with
          | some (.arr [c0, c1, c2, c3]) => (
          some (.tup [.bool false, .int .i64 0], O1.set k (.arr [.int .i64 3, c1, c2, .int .u64 (v + 1)])))
          | _ => none)
        else none
      else
        some (.tup [.bool false, .int .i64 e], O1))
      | _ => none)
    else if st = 3 then
      (match onceStoreS [.ref 0 ko 0, .int .i64 7, .int .u64 nu] O with
      | some (.int .i64 e, O2) => (
      if e = 0 then
        (match O2[k]? with
        | some (.arr [c0, c1, .iface t3 (.ref 0 kc 0), c3]) => (
        some (.tup [.bool false, .int .i64 0], O2.set k (.arr [.int .i64 4, .iface t3 (.ref 0 kc 0), .iface t3 (.ref 0 kc 0), c3])))
        | _ => none)
      else
        some (.tup [.bool false, .int .i64 e], O2))
      | _ => none)
    else if st = 5 then
      some (.tup [.bool false, .int .i64 17], O)
    else if t1 = 156 then
      (match acqStepS [.ref 0 ka 0, .iface 162 (.ref 0 ko 0)] O with
      | some (.tup [.bool w, .int .i64 e], O3) => (
      if e = 0 then
        (match O3[k]? with
        | some (.arr [.int .i64 st', .iface t1' (.ref 0 ka' 0), c2, c3]) => (
        if t1' = 156 then
          match acqDoneS [.ref 0 ka' 0] O3 with
          | some (.bool true, Oz) =>
            match Oz[k]? with
            | some (.arr [.int .i64 st2, d1, d2, d3]) =>
              if st2 = 1 then some (.tup [.bool w, .int .i64 0], Oz.set k (.arr [.int .i64 2, d1, d2, d3]))
              else some (.tup [.bool w, .int .i64 0], Oz.set k (.arr [.int .i64 5, d1, d2, d3]))
            | _ => none
          | some (.bool false, Oz) => some (.tup [.bool w, .int .i64 0], Oz)
          | _ => none
        else none)
        | _ => none)
      else
        some (.tup [.bool w, .int .i64 e], O3))
      | _ => none)
    else if t1 = 159 then
      (match relStepS [.ref 0 ka 0, .iface 162 (.ref 0 ko 0)] O with
      | some (.tup [.bool w, .int .i64 e], O4) => (
      if e = 0 then
        (match O4[k]? with
        | some (.arr [.int .i64 st', .iface t1' (.ref 0 ka' 0), c2, c3]) => (
        if t1' = 159 then
          match relDoneS [.ref 0 ka' 0] O4 with
          | some (.bool true, Oz) =>
            match Oz[k]? with
            | some (.arr [.int .i64 st2, d1, d2, d3]) =>
              if st2 = 1 then some (.tup [.bool w, .int .i64 0], Oz.set k (.arr [.int .i64 2, d1, d2, d3]))
              else some (.tup [.bool w, .int .i64 0], Oz.set k (.arr [.int .i64 5, d1, d2, d3]))
            | _ => none
          | some (.bool false, Oz) => some (.tup [.bool w, .int .i64 0], Oz)
          | _ => none
        else none)
        | _ => none)
      else
        some (.tup [.bool w, .int .i64 e], O4))
      | _ => none)
    else none)
    | _ => none)
  | _ => none
theorem drawStepS_ok : SpOk Tryz.prog 57 drawStepS := by
  intro args O r O' h S
  unfold drawStepS at h
  repeat' (split at h)
  all_goals first | (cases h; done) | skip
  all_goals
    simp only [Option.some.injEq, Prod.mk.injEq] at h
    obtain ⟨rfl, rfl⟩ := h
    refine bodyA (tabC_cons drawZeroS_ok (tabC_cons onceLoadS_ok (tabC_cons onceStoreS_ok (tabC_cons acqStepS_ok (tabC_cons relStepS_ok (tabC_cons acqDoneS_ok (tabC_cons relDoneS_ok (tabC_nil _)))))))) (n := 0) F57_code ?_
    try simp only [acc, accZ, errA] at *
    simp (disch := first | decide | omega | assumption) only [F57, RAs, RBs, RCs, RDs, REs, RFs, RGs, RHs, RIs, RJs, RKs, RLs, RRt, Nat.reduceLT, Nat.reduceEqDiff, Nat.reduceAdd, Nat.reduceSub, RXa, RXb, RXc, methR, acc, accZ, errA, drawZeroS, *]

end Den

/- Contracts of law 32's runs. -/
set_option maxRecDepth 100000
set_option maxHeartbeats 4000000
set_option linter.unusedSimpArgs false
set_option linter.unusedVariables false
namespace Den
open Go Go.Proofs

/-- Methods by their types. -/
theorem methT : cfgA.meth 96 "Step" = some 57 ∧ mok Tryz.prog 96 "Step" = true ∧ cfgA.meth 96 "Done" = some 55 ∧ mok Tryz.prog 96 "Done" = true ∧ cfgA.meth 96 "Result" = some 56 ∧ mok Tryz.prog 96 "Result" = true := ⟨by kernel_rfl, by kernel_rfl, by kernel_rfl, by kernel_rfl, by kernel_rfl, by kernel_rfl⟩

/-- ticketlinelaw32.step -/
def step32S : Sp := fun args O =>
  match args with
  | [.iface 96 (.ref 0 kd 0), .ref 0 km 0] =>
    (match newOnceS [.ref 0 km 0] O with
    | some (.tup [.ref 0 ko 0, .int .i64 e], O1) => (
    if e = 0 then
      (match drawStepS [.ref 0 kd 0, .iface 162 (.ref 0 ko 0)] O1 with
      | some (.tup [.bool w, .int .i64 e2], O2) => (
      if e2 = 0 then
        some (.tup [.bool w, .bool false], O2)
      else
        some (.tup [.bool w, .bool true], O2))
      | _ => none)
    else none)
    | _ => none)
  | _ => none
theorem step32S_ok : SpOk Tryz.prog 54 step32S := by
  intro args O r O' h S
  unfold step32S at h
  repeat' (split at h)
  all_goals first | (cases h; done) | skip
  all_goals
    simp only [Option.some.injEq, Prod.mk.injEq] at h
    obtain ⟨rfl, rfl⟩ := h
    refine bodyA (tabC_cons newOnceS_ok (tabC_cons drawStepS_ok (tabC_nil _))) (n := 0) F54_code ?_
    try simp only [acc, accZ, errA] at *
    simp (disch := first | decide | omega | assumption) only [F54, RAs, RBs, RCs, RDs, REs, RFs, RGs, RHs, RIs, RJs, RKs, RLs, RRt, Nat.reduceLT, Nat.reduceEqDiff, Nat.reduceAdd, Nat.reduceSub, RXa, RXb, RXc, methR, methT, acc, accZ, errA, *]

/-- ticketlinelaw32.run: the loop 0 -/
def run32G (kd km : Nat) (most : Int) : Nat → Int → Bool → Mo → Option (AV × Mo)
  | 0, i, last, O =>
    if i < most then none
    else
      (match drawDoneS [.ref 0 kd 0] O with
      | some (.bool d, O1) => (
      some (.tup [.bool d, .bool last], O1))
      | _ => none)
  | n + 1, i, last, O =>
    if i < most then
      if i < 0 then none
      else
        match drawDoneS [.ref 0 kd 0] O with
        | some (.bool true, Oa) =>
          match drawDoneS [.ref 0 kd 0] Oa with
          | some (.bool d, Ob) => some (.tup [.bool d, .bool last], Ob)
          | _ => none
        | some (.bool false, Oa) =>
          match step32S [.iface 96 (.ref 0 kd 0), .ref 0 km 0] Oa with
          | some (.tup [.bool w, .bool true], Ob) => some (.tup [.bool false, .bool false], Ob)
          | some (.tup [.bool w, .bool false], Ob) => run32G kd km most n (i + 1) w Ob
          | _ => none
        | _ => none
    else
      (match drawDoneS [.ref 0 kd 0] O with
      | some (.bool d, O2) => (
      some (.tup [.bool d, .bool last], O2))
      | _ => none)
/-- ticketlinelaw32.run -/
def run32S : Sp := fun args O =>
  match args with
  | [.iface 96 (.ref 0 kd 0), .ref 0 km 0, .int .i64 most] => if most ≤ 1000 then run32G kd km most most.toNat 0 false O else none
  | _ => none
end Den

/- Contracts of the gate's programs. -/
set_option maxRecDepth 100000
set_option maxHeartbeats 4000000
set_option linter.unusedSimpArgs false
set_option linter.unusedVariables false
namespace Den
open Go Go.Proofs

end Den

/- Contracts of the gate's programs: their steps. -/
set_option maxRecDepth 100000
set_option maxHeartbeats 4000000
set_option linter.unusedSimpArgs false
set_option linter.unusedVariables false
namespace Den
open Go Go.Proofs

end Den

/- Contracts of the gate's programs: those that leave. -/
set_option maxRecDepth 100000
set_option maxHeartbeats 4000000
set_option linter.unusedSimpArgs false
set_option linter.unusedVariables false
namespace Den
open Go Go.Proofs

end Den

/- Contracts of law 31's runs. -/
set_option maxRecDepth 100000
set_option maxHeartbeats 4000000
set_option linter.unusedSimpArgs false
set_option linter.unusedVariables false
namespace Den
open Go Go.Proofs

end Den

/- Contracts of an arena's beginning. -/
set_option maxRecDepth 100000
set_option maxHeartbeats 4000000
set_option linter.unusedSimpArgs false
set_option linter.unusedVariables false
namespace Den
open Go Go.Proofs

def isW : AV → Bool
  | .int .u64 _ => true
  | _ => false
theorem isW_low {lim : Nat} {v : AV} (h : isW v = true) : v.low lim = true ∧ low1 lim v = true := by
  cases v <;> first | (cases h; done) | skip
  exact ⟨rfl, rfl⟩
theorem lowL_all {lim : Nat} : ∀ {cs : List AV} (h : cs.all isW = true), lowL lim cs = true
  | [], _ => rfl
  | c :: cs, h => by
    simp only [List.all_cons, Bool.and_eq_true] at h
    rw [lowL_cons, (isW_low h.1).2, lowL_all h.2]; rfl
theorem all_low {lim : Nat} {cs : List AV} (h : cs.all isW = true) : cs.all (AV.low lim) = true :=
  List.all_eq_true.2 fun v hv => (isW_low (List.all_eq_true.1 h v hv)).1
theorem take_len {α : Type} {n : Nat} {cs : List α} (h : cs.length = n) : cs.take n = cs := List.take_of_length_le (by omega)
theorem mks_o {n : Nat} {O : Mo} {S : Ms} {z : AV} (h : n ≤ 1000000) : mksC [z] 1 8 true (some n) (some n) O S = some (.bref 0 O.length 0 n n, O ++ [.buf 1 (repCells [z] n)], S) := by
  have h1 : n * 8 ≤ 2 ^ 47 := by omega
  have h2 : n < 2 ^ 62 := by omega
  simp [mksC, h1, h2, newD, newK, newO, newS]
theorem conts_o {O : Mo} {S : Ms} {k n : Nat} {ws : List AV} (h : O[k]? = some (.buf 1 ws)) (hl : ws.length = n) : conts O S 1 (.bref 0 k 0 n n) = some (ws, n) := by
  subst hl; simp [conts, gm_0, h]
theorem app_emp_o {O : Mo} {S : Ms} {ws : List AV} {n : Nat} (hn : n ≤ 1000000) (h : ws.all isW = true) : appC 1 8 true .emp (some (ws, n)) O S = some (.bref 0 O.length 0 n ws.length, O ++ [.buf 1 ws], S) := by
  have h1 : n * 8 * 2 ≤ 140737488355328 := by omega
  have := all_low (lim := 1) h
  simp [appC, appA, newD, newK, newO, newS, h1, this]
theorem rep_eq (z : AV) : ∀ n : Nat, repCells [z] n = List.replicate n z
  | 0 => rfl
  | n + 1 => by rw [repCells, rep_eq z n]; rfl
/-- mem.New -/
def newMemS : Sp := fun args O =>
  match args with
  | [.int .i64 n] =>
    if n < 1 then some (.tup [.nilp, .int .i64 2], O)
    else if 65536 < n then some (.tup [.nilp, .int .i64 2], O)
    else some (.tup [.ref 0 (O ++ [ABlk.buf 1 (repCells [.int .u64 0] n.toNat)]).length 0, .int .i64 0], O ++ [.buf 1 (repCells [.int .u64 0] n.toNat)] ++ [.arr [.bref 0 O.length 0 n.toNat n.toNat]])
  | _ => none
theorem newMemS_ok : SpOk Tryz.prog 27 newMemS := by
  intro args O r O' h S
  unfold newMemS at h
  repeat' (split at h)
  all_goals first | (cases h; done) | skip
  all_goals
    simp only [Option.some.injEq, Prod.mk.injEq] at h
    obtain ⟨rfl, rfl⟩ := h
    refine bodyA (tabC_nil _) (n := 0) F27_code ?_
    try simp only [acc, accZ, errA] at *
    simp (disch := first | decide | omega | assumption) only [F27, RAs, RBs, RCs, RDs, REs, RFs, RGs, RHs, RIs, RJs, RKs, RLs, RRt, Nat.reduceLT, Nat.reduceEqDiff, Nat.reduceAdd, Nat.reduceSub, RXa, RXb, RXc, methR, mks_o, lowL_all, take_len, eq_self, acc, accZ, errA, *]

/-- mem.Mem.Len -/
def lenS : Sp := fun args O =>
  match args with
  | [.ref 0 k 0] => match O[k]? with
    | some (.arr [.bref 0 k2 0 n tot]) => match O[k2]? with
      | some (.buf 1 ws) => if n = tot then if ws.length = tot then if ws.length = 0 then some (.int .i64 0, O) else some (.int .i64 n, O) else none else none
      | _ => none
    | _ => none
  | _ => none
theorem lenS_ok : SpOk Tryz.prog 104 lenS := by
  intro args O r O' h S
  unfold lenS at h
  split at h
  case h_2 => cases h
  rename_i k
  split at h
  case h_2 => cases h
  rename_i k2 n tot h1
  split at h
  case h_2 => cases h
  rename_i ws h2
  split at h
  case isFalse => cases h
  rename_i h3
  split at h
  case isFalse => cases h
  rename_i h4
  subst h3 h4
  have H : MemO O k 0 k2 [.bref 0 k2 0 ws.length ws.length] ws := ⟨h1, rfl, h2⟩
  split at h <;> rename_i h5 <;> cases h
  · refine bodyA (tabC_cons zeroS_ok (tabC_nil _)) (n := 0) F104_code ?_
    simp (disch := first | decide | omega | assumption) only [F104, RAs, RBs, RCs, RDs, REs, RFs, RGs, RHs, RIs, RJs, RKs, RLs, RRt, Nat.reduceLT, Nat.reduceEqDiff, Nat.reduceAdd, Nat.reduceSub, RXa, RXb, RXc, methR, mks_o, lowL_all, take_len, eq_self, zeroS_eq H, h5]
  · refine bodyA (tabC_cons zeroS_ok (tabC_nil _)) (n := 0) F104_code ?_
    simp (disch := first | decide | omega | assumption) only [F104, RAs, RBs, RCs, RDs, REs, RFs, RGs, RHs, RIs, RJs, RKs, RLs, RRt, Nat.reduceLT, Nat.reduceEqDiff, Nat.reduceAdd, Nat.reduceSub, RXa, RXb, RXc, methR, mks_o, lowL_all, take_len, eq_self, zeroS_eq H, h5, h1]

/-- slices.Clone[[]uint64,uint64] -/
def cloneS : Sp := fun args O =>
  match args with
  | [.bref 0 k 0 n tot] => match O[k]? with
    | some (.buf 1 ws) => if n = tot then if ws.length = n then if n ≤ 65536 then if ws.all isW = true then if 1 ≤ n then some (.bref 0 O.length 0 n ws.length, O ++ [.buf 1 ws]) else none else none else none else none else none
    | _ => none
  | _ => none
theorem cloneS_ok : SpOk Tryz.prog 91 cloneS := by
  intro args O r O' h S
  unfold cloneS at h
  split at h
  case h_2 => cases h
  rename_i k n tot
  split at h
  case h_2 => cases h
  rename_i ws h1
  split at h
  case isFalse => cases h
  rename_i h2
  split at h
  case isFalse => cases h
  rename_i h3
  split at h
  case isFalse => cases h
  rename_i h4
  split at h
  case isFalse => cases h
  rename_i h5
  split at h
  case isFalse => cases h
  rename_i h6
  cases h
  subst h2
  have hn : isNilA .slice (.bref 0 k 0 n n) = some false := by
    have : n ≠ 0 := by omega
    simp [isNilA, this]
  refine bodyA (tabC_nil _) (n := 0) F91_code ?_
  have hb : bslC 1 0 false false (some []) O (S ++ [[]]) = some (.emp, O, S ++ [[]]) := rfl
  simp (disch := first | decide | omega | assumption) only [F91, RAs, RBs, RCs, RDs, REs, RFs, RGs, RHs, RIs, RJs, RKs, RLs, RRt, Nat.reduceLT, Nat.reduceEqDiff, Nat.reduceAdd, Nat.reduceSub, RXa, RXb, RXc, methR, mks_o, lowL_all, take_len, eq_self, hn, rep0, hb, conts_o h1 h3, app_emp_o (by omega : n ≤ 1000000) h5]

/-- mem.Mem.Copy -/
def memCopyS : Sp := fun args O =>
  match args with
  | [.ref 0 k 0] =>
    match zeroS [.ref 0 k 0] O with
    | some (.bool true, Oa) => some (.nilp, Oa)
    | some (.bool false, Oa) =>
      match Oa[k]? with
      | some (.arr [.bref 0 k2 0 n tot]) => match cloneS [.bref 0 k2 0 n tot] Oa with
        | some (.bref 0 k3 0 n3 t3, Ob) => some (.ref 0 Ob.length 0, Ob ++ [.arr [.bref 0 k3 0 n3 t3]])
        | _ => none
      | _ => none
    | _ => none
  | _ => none
theorem memCopyS_ok : SpOk Tryz.prog 38 memCopyS := by
  intro args O r O' h S
  unfold memCopyS at h
  repeat' (split at h)
  all_goals first | (cases h; done) | skip
  all_goals
    simp only [Option.some.injEq, Prod.mk.injEq] at h
    obtain ⟨rfl, rfl⟩ := h
    refine bodyA (tabC_cons zeroS_ok (tabC_cons cloneS_ok (tabC_nil _))) (n := 0) F38_code ?_
    try simp only [acc, accZ, errA] at *
    simp (disch := first | decide | omega | assumption) only [F38, RAs, RBs, RCs, RDs, REs, RFs, RGs, RHs, RIs, RJs, RKs, RLs, RRt, Nat.reduceLT, Nat.reduceEqDiff, Nat.reduceAdd, Nat.reduceSub, RXa, RXb, RXc, methR, mks_o, lowL_all, take_len, eq_self, acc, accZ, errA, *]

/-- arena.words.set -/
def wsetS : Sp := fun args O =>
  match args with
  | [.agg [.ref 0 k 0], .int .i64 i, .int .u64 v] => match storeS [.ref 0 k 0, .int .i64 i, .int .u64 v] O with
    | some (.int .i64 e, O') => some (.tup [], O')
    | _ => none
  | _ => none
theorem wsetS_ok : SpOk Tryz.prog 106 wsetS := by
  intro args O r O' h S
  unfold wsetS at h
  repeat' (split at h)
  all_goals first | (cases h; done) | skip
  all_goals
    simp only [Option.some.injEq, Prod.mk.injEq] at h
    obtain ⟨rfl, rfl⟩ := h
    refine bodyA (tabC_cons storeS_ok (tabC_nil _)) (n := 0) F106_code ?_
    try simp only [acc, accZ, errA] at *
    simp (disch := first | decide | omega | assumption) only [F106, RAs, RBs, RCs, RDs, REs, RFs, RGs, RHs, RIs, RJs, RKs, RLs, RRt, Nat.reduceLT, Nat.reduceEqDiff, Nat.reduceAdd, Nat.reduceSub, RXa, RXb, RXc, methR, mks_o, lowL_all, take_len, eq_self, acc, accZ, errA, *]

/-- arena.words.get -/
def wgetS : Sp := fun args O =>
  match args with
  | [.agg [.ref 0 k 0], .int .i64 i] => match loadS [.ref 0 k 0, .int .i64 i] O with
    | some (.tup [.int .u64 b, .int .i64 e], O') => some (.int .u64 b, O')
    | _ => none
  | _ => none
theorem wgetS_ok : SpOk Tryz.prog 111 wgetS := by
  intro args O r O' h S
  unfold wgetS at h
  repeat' (split at h)
  all_goals first | (cases h; done) | skip
  all_goals
    simp only [Option.some.injEq, Prod.mk.injEq] at h
    obtain ⟨rfl, rfl⟩ := h
    refine bodyA (tabC_cons loadS_ok (tabC_nil _)) (n := 0) F111_code ?_
    try simp only [acc, accZ, errA] at *
    simp (disch := first | decide | omega | assumption) only [F111, RAs, RBs, RCs, RDs, REs, RFs, RGs, RHs, RIs, RJs, RKs, RLs, RRt, Nat.reduceLT, Nat.reduceEqDiff, Nat.reduceAdd, Nat.reduceSub, RXa, RXb, RXc, methR, mks_o, lowL_all, take_len, eq_self, acc, accZ, errA, *]

/-- arena.place -/
def placeS : Sp := fun args O =>
  match args with
  | [.int .i64 p, .int .i64 i] => if 0 ≤ p ∧ p ≤ 1000 ∧ 0 ≤ i ∧ i ≤ 1000 then some (.int .i64 (16 + 128 * (p - 1) + i), O) else none
  | _ => none
theorem placeS_ok : SpOk Tryz.prog 105 placeS := by
  intro args O r O' h S
  unfold placeS at h
  repeat' (split at h)
  all_goals first | (cases h; done) | skip
  all_goals
    simp only [Option.some.injEq, Prod.mk.injEq] at h
    obtain ⟨rfl, rfl⟩ := h
    refine bodyA (tabC_nil _) (n := 0) F105_code ?_
    try simp only [acc, accZ, errA] at *
    simp (disch := first | decide | omega | assumption) only [F105, RAs, RBs, RCs, RDs, REs, RFs, RGs, RHs, RIs, RJs, RKs, RLs, RRt, Nat.reduceLT, Nat.reduceEqDiff, Nat.reduceAdd, Nat.reduceSub, RXa, RXb, RXc, methR, mks_o, lowL_all, take_len, eq_self, acc, accZ, errA, *]

/-- arena.Format: the loop 1 -/
def fmtB (kc : Nat) (pages : Int) : Nat → Int → Mo → Option (AV × Mo)
  | 0, p, O => if p < pages then none else some (.tup [.ref 0 O.length 0, .int .i64 0], O ++ [.arr [.ref 0 kc 0]])
  | n + 1, p, O =>
    if p < pages then
      if p < 1 then none
      else
        match wsetS [.agg [.ref 0 kc 0], .int .i64 (16 + 128 * (p - 1) + 10), .int .u64 (p + 1)] O with
        | some (.tup [], Oa) => fmtB kc pages n (p + 1) Oa
        | _ => none
    else some (.tup [.ref 0 O.length 0, .int .i64 0], O ++ [.arr [.ref 0 kc 0]])
theorem fmtB_loop {S : Ms} (kc : Nat) (pages : Int) (h0 : pages ≤ 511) : ∀ (n : Nat) (p : Int) (O : Mo) (env : Env) (M : Nat) (r : AV) (O' : Mo) (h : fmtB kc pages n p O = some (r, O')) (hM : n < M) (e0 : env 1 = .int .i64 pages) (e1 : env 6 = .ref (S.length + 1) 0 0) (e2 : env 8 = .int .i64 p),
    W61x1 cfgA (tabC [(104, lenS), (105, placeS), (38, memCopyS), (106, wsetS)]) 100000 (loopN (exec cfgA (tabC [(104, lenS), (105, placeS), (38, memCopyS), (106, wsetS)]) 100000 B61x1) [] M ⟨leOf 64 env, O, S ++ [[ABlk.arr [.ref 0 kc 0]]]⟩) = some (r, O', S) := by
  intro n
  induction n with
  | zero =>
    intro p O env M r O' h hM e0 e1 e2
    obtain ⟨M, rfl⟩ : ∃ M', M = M' + 1 := ⟨M - 1, by omega⟩
    unfold fmtB at h
    repeat' (split at h)
    all_goals first | (cases h; done) | (dsimp only at h; cases h; done) | (exfalso; omega) | skip
    all_goals
      try dsimp only at h
      try simp only [acc, accZ, errA] at *
      first
        | (simp (disch := first | decide | omega | assumption) only [loop_unf, loopK_N, loopK_E, loopK_R, RAs, RBs, RCs, RDs, REs, RFs, RGs, RHs, RIs, RJs, RKs, RLs, RRt, Nat.reduceLT, Nat.reduceEqDiff, Nat.reduceAdd, Nat.reduceSub, RXa, RXb, RXc, methR, mks_o, lowL_all, take_len, eq_self, placeS, *]
           refine noIh _ _ _ _ _ _ h (by omega) ?_ ?_ ?_
           all_goals simp (disch := first | decide | omega | assumption) only [RAs, RBs, RCs, RDs, REs, RFs, RGs, RHs, RIs, RJs, RKs, RLs, RRt, Nat.reduceLT, Nat.reduceEqDiff, Nat.reduceAdd, Nat.reduceSub, RXa, RXb, RXc, methR, mks_o, lowL_all, take_len, eq_self, *])
        | (simp only [Option.some.injEq, Prod.mk.injEq] at h
           obtain ⟨rfl, rfl⟩ := h
           simp (disch := first | decide | omega | assumption) only [W61x1, loop_unf, loopK_N, loopK_E, loopK_R, RAs, RBs, RCs, RDs, REs, RFs, RGs, RHs, RIs, RJs, RKs, RLs, RRt, Nat.reduceLT, Nat.reduceEqDiff, Nat.reduceAdd, Nat.reduceSub, RXa, RXb, RXc, methR, mks_o, lowL_all, take_len, eq_self, placeS, *])
  | succ n ih =>
    intro p O env M r O' h hM e0 e1 e2
    obtain ⟨M, rfl⟩ : ∃ M', M = M' + 1 := ⟨M - 1, by omega⟩
    unfold fmtB at h
    repeat' (split at h)
    all_goals first | (cases h; done) | (dsimp only at h; cases h; done) | (exfalso; omega) | skip
    all_goals
      try dsimp only at h
      try simp only [acc, accZ, errA] at *
      first
        | (have hg_ : fmtB kc pages n _ _ = _ := h
           clear hg_
           simp (disch := first | decide | omega | assumption) only [loop_unf, loopK_N, loopK_E, loopK_R, RAs, RBs, RCs, RDs, REs, RFs, RGs, RHs, RIs, RJs, RKs, RLs, RRt, Nat.reduceLT, Nat.reduceEqDiff, Nat.reduceAdd, Nat.reduceSub, RXa, RXb, RXc, methR, mks_o, lowL_all, take_len, eq_self, placeS, *]
           refine ih _ _ _ _ _ _ h (by omega) ?_ ?_ ?_
           all_goals simp (disch := first | decide | omega | assumption) only [RAs, RBs, RCs, RDs, REs, RFs, RGs, RHs, RIs, RJs, RKs, RLs, RRt, Nat.reduceLT, Nat.reduceEqDiff, Nat.reduceAdd, Nat.reduceSub, RXa, RXb, RXc, methR, mks_o, lowL_all, take_len, eq_self, *])
        | (simp only [Option.some.injEq, Prod.mk.injEq] at h
           obtain ⟨rfl, rfl⟩ := h
           simp (disch := first | decide | omega | assumption) only [W61x1, loop_unf, loopK_N, loopK_E, loopK_R, RAs, RBs, RCs, RDs, REs, RFs, RGs, RHs, RIs, RJs, RKs, RLs, RRt, Nat.reduceLT, Nat.reduceEqDiff, Nat.reduceAdd, Nat.reduceSub, RXa, RXb, RXc, methR, mks_o, lowL_all, take_len, eq_self, placeS, *])

/-- arena.Format: the loop 0 -/
def fmtA (kc : Nat) (pages bound : Int) : Nat → Int → Mo → Option (AV × Mo)
  | 0, i, O =>
    if i < bound then none
    else
      match wsetS [.agg [.ref 0 kc 0], .int .i64 0, .int .u64 pages] O with
      | some (.tup [], Oa) => match wsetS [.agg [.ref 0 kc 0], .int .i64 1, .int .u64 1] Oa with
        | some (.tup [], Ob) => match wsetS [.agg [.ref 0 kc 0], .int .i64 4, .int .u64 1] Ob with
          | some (.tup [], Oc) => fmtB kc pages pages.toNat 1 Oc
          | _ => none
        | _ => none
      | _ => none
  | n + 1, i, O =>
    if i < bound then
      if 0 ≤ i then
        match wsetS [.agg [.ref 0 kc 0], .int .i64 i, .int .u64 0] O with
        | some (.tup [], Oa) => fmtA kc pages bound n (i + 1) Oa
        | _ => none
      else none
    else
      match wsetS [.agg [.ref 0 kc 0], .int .i64 0, .int .u64 pages] O with
      | some (.tup [], Oa) => match wsetS [.agg [.ref 0 kc 0], .int .i64 1, .int .u64 1] Oa with
        | some (.tup [], Ob) => match wsetS [.agg [.ref 0 kc 0], .int .i64 4, .int .u64 1] Ob with
          | some (.tup [], Oc) => fmtB kc pages pages.toNat 1 Oc
          | _ => none
        | _ => none
      | _ => none
theorem fmtA_loop {S : Ms} (kc : Nat) (pages bound : Int) (h0 : pages ≤ 511) (h1 : 1 ≤ pages) (h2 : bound ≤ 70000) : ∀ (n : Nat) (i : Int) (O : Mo) (env : Env) (M : Nat) (r : AV) (O' : Mo) (h : fmtA kc pages bound n i O = some (r, O')) (hM : n < M) (e0 : env 1 = .int .i64 pages) (e1 : env 6 = .ref (S.length + 1) 0 0) (e2 : env 33 = .int .i64 bound) (e3 : env 34 = .int .i64 i),
    W61x0 cfgA (tabC [(104, lenS), (105, placeS), (38, memCopyS), (106, wsetS)]) 100000 (loopN (exec cfgA (tabC [(104, lenS), (105, placeS), (38, memCopyS), (106, wsetS)]) 100000 B61x0) [] M ⟨leOf 64 env, O, S ++ [[ABlk.arr [.ref 0 kc 0]]]⟩) = some (r, O', S) := by
  intro n
  induction n with
  | zero =>
    intro i O env M r O' h hM e0 e1 e2 e3
    obtain ⟨M, rfl⟩ : ∃ M', M = M' + 1 := ⟨M - 1, by omega⟩
    unfold fmtA at h
    repeat' (split at h)
    all_goals first | (cases h; done) | (dsimp only at h; cases h; done) | (exfalso; omega) | skip
    all_goals
      try dsimp only at h
      try simp only [acc, accZ, errA] at *
      first
        | (simp (disch := first | decide | omega | assumption) only [loop_unf, loopK_N, loopK_E, loopK_R, RAs, RBs, RCs, RDs, REs, RFs, RGs, RHs, RIs, RJs, RKs, RLs, RRt, Nat.reduceLT, Nat.reduceEqDiff, Nat.reduceAdd, Nat.reduceSub, RXa, RXb, RXc, methR, mks_o, lowL_all, take_len, eq_self, placeS, *]
           refine noIh _ _ _ _ _ _ h (by omega) ?_ ?_ ?_ ?_
           all_goals simp (disch := first | decide | omega | assumption) only [RAs, RBs, RCs, RDs, REs, RFs, RGs, RHs, RIs, RJs, RKs, RLs, RRt, Nat.reduceLT, Nat.reduceEqDiff, Nat.reduceAdd, Nat.reduceSub, RXa, RXb, RXc, methR, mks_o, lowL_all, take_len, eq_self, *])
        | (have hg_ : fmtB _ _ _ _ _ = _ := h
           clear hg_
           simp (disch := first | decide | omega | assumption) only [loop_unf, loopK_N, loopK_E, loopK_R, RAs, RBs, RCs, RDs, REs, RFs, RGs, RHs, RIs, RJs, RKs, RLs, RRt, Nat.reduceLT, Nat.reduceEqDiff, Nat.reduceAdd, Nat.reduceSub, RXa, RXb, RXc, methR, mks_o, lowL_all, take_len, eq_self, placeS, *]
           simp (disch := first | decide | omega | assumption) only [W61x0, e_loop, RAs, RBs, RCs, RDs, REs, RFs, RGs, RHs, RIs, RJs, RKs, RLs, RRt, Nat.reduceLT, Nat.reduceEqDiff, Nat.reduceAdd, Nat.reduceSub, RXa, RXb, RXc, methR, mks_o, lowL_all, take_len, eq_self, placeS, *]
           refine fmtB_loop _ _ (by omega) _ _ _ _ _ _ _ h (by omega) ?_ ?_ ?_
           all_goals simp (disch := first | decide | omega | assumption) only [RAs, RBs, RCs, RDs, REs, RFs, RGs, RHs, RIs, RJs, RKs, RLs, RRt, Nat.reduceLT, Nat.reduceEqDiff, Nat.reduceAdd, Nat.reduceSub, RXa, RXb, RXc, methR, mks_o, lowL_all, take_len, eq_self, *])
        | (simp only [Option.some.injEq, Prod.mk.injEq] at h
           obtain ⟨rfl, rfl⟩ := h
           simp (disch := first | decide | omega | assumption) only [W61x0, loop_unf, loopK_N, loopK_E, loopK_R, RAs, RBs, RCs, RDs, REs, RFs, RGs, RHs, RIs, RJs, RKs, RLs, RRt, Nat.reduceLT, Nat.reduceEqDiff, Nat.reduceAdd, Nat.reduceSub, RXa, RXb, RXc, methR, mks_o, lowL_all, take_len, eq_self, placeS, *])
  | succ n ih =>
    intro i O env M r O' h hM e0 e1 e2 e3
    obtain ⟨M, rfl⟩ : ∃ M', M = M' + 1 := ⟨M - 1, by omega⟩
    unfold fmtA at h
    repeat' (split at h)
    all_goals first | (cases h; done) | (dsimp only at h; cases h; done) | (exfalso; omega) | skip
    all_goals
      try dsimp only at h
      try simp only [acc, accZ, errA] at *
      first
        | (have hg_ : fmtA kc pages bound n _ _ = _ := h
           clear hg_
           simp (disch := first | decide | omega | assumption) only [loop_unf, loopK_N, loopK_E, loopK_R, RAs, RBs, RCs, RDs, REs, RFs, RGs, RHs, RIs, RJs, RKs, RLs, RRt, Nat.reduceLT, Nat.reduceEqDiff, Nat.reduceAdd, Nat.reduceSub, RXa, RXb, RXc, methR, mks_o, lowL_all, take_len, eq_self, placeS, *]
           refine ih _ _ _ _ _ _ h (by omega) ?_ ?_ ?_ ?_
           all_goals simp (disch := first | decide | omega | assumption) only [RAs, RBs, RCs, RDs, REs, RFs, RGs, RHs, RIs, RJs, RKs, RLs, RRt, Nat.reduceLT, Nat.reduceEqDiff, Nat.reduceAdd, Nat.reduceSub, RXa, RXb, RXc, methR, mks_o, lowL_all, take_len, eq_self, *])
        | (have hg_ : fmtB _ _ _ _ _ = _ := h
           clear hg_
           simp (disch := first | decide | omega | assumption) only [loop_unf, loopK_N, loopK_E, loopK_R, RAs, RBs, RCs, RDs, REs, RFs, RGs, RHs, RIs, RJs, RKs, RLs, RRt, Nat.reduceLT, Nat.reduceEqDiff, Nat.reduceAdd, Nat.reduceSub, RXa, RXb, RXc, methR, mks_o, lowL_all, take_len, eq_self, placeS, *]
           simp (disch := first | decide | omega | assumption) only [W61x0, e_loop, RAs, RBs, RCs, RDs, REs, RFs, RGs, RHs, RIs, RJs, RKs, RLs, RRt, Nat.reduceLT, Nat.reduceEqDiff, Nat.reduceAdd, Nat.reduceSub, RXa, RXb, RXc, methR, mks_o, lowL_all, take_len, eq_self, placeS, *]
           refine fmtB_loop _ _ (by omega) _ _ _ _ _ _ _ h (by omega) ?_ ?_ ?_
           all_goals simp (disch := first | decide | omega | assumption) only [RAs, RBs, RCs, RDs, REs, RFs, RGs, RHs, RIs, RJs, RKs, RLs, RRt, Nat.reduceLT, Nat.reduceEqDiff, Nat.reduceAdd, Nat.reduceSub, RXa, RXb, RXc, methR, mks_o, lowL_all, take_len, eq_self, *])
        | (simp only [Option.some.injEq, Prod.mk.injEq] at h
           obtain ⟨rfl, rfl⟩ := h
           simp (disch := first | decide | omega | assumption) only [W61x0, loop_unf, loopK_N, loopK_E, loopK_R, RAs, RBs, RCs, RDs, REs, RFs, RGs, RHs, RIs, RJs, RKs, RLs, RRt, Nat.reduceLT, Nat.reduceEqDiff, Nat.reduceAdd, Nat.reduceSub, RXa, RXb, RXc, methR, mks_o, lowL_all, take_len, eq_self, placeS, *])

/-- arena.Format -/
def aFormatS : Sp := fun args O =>
  match args with
  | [.ref 0 k 0, .int .i64 pages] =>
    match lenS [.ref 0 k 0] O with
    | some (.int .i64 n, Oa) =>
      if n = 0 then some (.tup [.nilp, .int .i64 1], Oa)
      else if pages < 1 then some (.tup [.nilp, .int .i64 2], Oa)
      else if 511 < pages then some (.tup [.nilp, .int .i64 2], Oa)
      else
        match lenS [.ref 0 k 0] Oa with
        | some (.int .i64 n2, Ob) =>
          if n2 < 16 + 128 * (pages + 1 - 1) + 0 then some (.tup [.nilp, .int .i64 2], Ob)
          else
            match memCopyS [.ref 0 k 0] Ob with
            | some (.ref 0 kc 0, Oc) => fmtA kc pages (16 + 128 * (pages + 1 - 1) + 0) (16 + 128 * pages).toNat 0 Oc
            | _ => none
        | _ => none
    | _ => none
  | _ => none
theorem aFormatS_ok : SpOk Tryz.prog 61 aFormatS := by
  intro args O r O' h S
  unfold aFormatS at h
  repeat' (split at h)
  all_goals first | (cases h; done) | skip
  all_goals
    try simp only [acc, accZ, errA] at *
    first
      | (simp only [Option.some.injEq, Prod.mk.injEq] at h
         obtain ⟨rfl, rfl⟩ := h
         refine bodyA (tabC_cons lenS_ok (tabC_cons placeS_ok (tabC_cons memCopyS_ok (tabC_cons wsetS_ok (tabC_nil _))))) (n := 100000) F61_code ?_
         simp (disch := first | decide | omega | assumption) only [F61, RAs, RBs, RCs, RDs, REs, RFs, RGs, RHs, RIs, RJs, RKs, RLs, RRt, Nat.reduceLT, Nat.reduceEqDiff, Nat.reduceAdd, Nat.reduceSub, RXa, RXb, RXc, methR, mks_o, lowL_all, take_len, eq_self, acc, accZ, errA, placeS, *])
      | (refine bodyA (tabC_cons lenS_ok (tabC_cons placeS_ok (tabC_cons memCopyS_ok (tabC_cons wsetS_ok (tabC_nil _))))) (n := 100000) F61_code ?_
         simp (disch := first | decide | omega | assumption) only [F61, RAs, RBs, RCs, RDs, REs, RFs, RGs, RHs, RIs, RJs, RKs, RLs, RRt, Nat.reduceLT, Nat.reduceEqDiff, Nat.reduceAdd, Nat.reduceSub, RXa, RXb, RXc, methR, mks_o, lowL_all, take_len, eq_self, e_loop, acc, accZ, errA, placeS, *]
         refine (fin_skip _ _ _ _ _).trans ?_
         refine fmtA_loop _ _ _ (by omega) (by omega) (by omega) _ _ _ _ _ _ _ h (by omega) ?_ ?_ ?_ ?_
         all_goals simp (disch := first | decide | omega | assumption) only [RAs, RBs, RCs, RDs, REs, RFs, RGs, RHs, RIs, RJs, RKs, RLs, RRt, Nat.reduceLT, Nat.reduceEqDiff, Nat.reduceAdd, Nat.reduceSub, RXa, RXb, RXc, methR, mks_o, lowL_all, take_len, eq_self, *])

end Den

/- Contracts of an arena with an empty tree. -/
set_option maxRecDepth 1000000
set_option maxHeartbeats 4000000
set_option linter.unusedSimpArgs false
set_option linter.unusedVariables false
namespace Den
open Go Go.Proofs

/-- An empty page of the lowest level. -/
def W0 : List Int := [0, 0, 0, 0, 0, 0, 0, 0, 1, 0, 0, 128] ++ List.replicate 116 0
def chkW : List Int → List AV → Bool
  | [], [] => true
  | x :: xs, .int .u64 y :: ys => decide (x = y) && chkW xs ys
  | _, _ => false
theorem chkW_eq : ∀ {xs : List Int} {cs : List AV}, chkW xs cs = true → cs = xs.map (AV.int .u64)
  | [], [], _ => rfl
  | x :: xs, .int .u64 y :: ys, h => by
    simp only [chkW, Bool.and_eq_true, decide_eq_true_eq] at h
    rw [h.1, chkW_eq h.2]; rfl
def P0 : List AV := W0.map (AV.int .u64)
noncomputable def isP : KV := fun v _ _ => match v with
  | .tup [.agg cs, .int .i64 e] => chkW W0 cs && decide (e = 0)
  | _ => false
theorem isP_ok {v : AV} {O : Mo} {S : Ms} (h : isP v O S = true) : v = .tup [.agg P0, .int .i64 0] := by
  unfold isP at h
  split at h
  · simp only [Bool.and_eq_true, decide_eq_true_eq] at h
    rw [h.2, chkW_eq h.1]; rfl
  · cases h
theorem make_run : fden cfgL noFp 1000000 62 [.int .i64 0, .str [], .str []] [] [] isP = true := by kernel_rfl
theorem valid_run : fden cfgL noFp 1000000 110 [.agg P0] [] [] isT = true := by kernel_rfl
theorem P0_free : P0.all free1 = true := by decide +kernel
def slotMakeS : Sp := fun args O =>
  match args with
  | [.int .i64 n, .str s, .str t] => if n = 0 ∧ s = [] ∧ t = [] then some (.tup [.agg P0, .int .i64 0], O) else none
  | _ => none
theorem slotMakeS_ok : SpOk Tryz.prog 62 slotMakeS := by
  intro args O r O' hh S
  unfold slotMakeS at hh
  split at hh
  · split at hh
    · rename_i h1
      obtain ⟨rfl, rfl, rfl⟩ := h1
      cases hh
      obtain ⟨r, O', S', h, hk⟩ := fden_ok cfgL_ok noFp_ok make_run
      obtain rfl := isP_ok hk
      exact h.anywhere rfl (by simp only [Den.free, List.all_cons, List.all_nil, P0_free, free1, Bool.and_true]) O S
    · cases hh
  · cases hh
def slotValidS : Sp := fun args O =>
  match args with
  | [.agg cs] => if chkW W0 cs = true then some (.bool true, O) else none
  | _ => none
theorem slotValidS_ok : SpOk Tryz.prog 110 slotValidS := by
  intro args O r O' hh S
  unfold slotValidS at hh
  split at hh
  · split at hh
    · rename_i cs h1
      obtain rfl := chkW_eq h1
      cases hh
      obtain ⟨r, O', S', h, hk⟩ := fden_ok cfgL_ok noFp_ok valid_run
      obtain rfl := isT_ok hk
      exact h.anywhere (by simp only [Den.free, List.all_cons, List.all_nil, Bool.and_true]; exact P0_free) rfl O S
    · cases hh
  · cases hh

/-- arena.Arena.none -/
def anoneS : Sp := fun args O =>
  match args with
  | [.ref 0 ka 0] => match O[ka]? with
    | some (.arr [.ref 0 kc 0]) => some (.bool false, O)
    | _ => none
  | _ => none
theorem anoneS_ok : SpOk Tryz.prog 109 anoneS := by
  intro args O r O' h S
  unfold anoneS at h
  repeat' (split at h)
  all_goals first | (cases h; done) | skip
  all_goals
    simp only [Option.some.injEq, Prod.mk.injEq] at h
    obtain ⟨rfl, rfl⟩ := h
    refine bodyA (tabC_nil _) (n := 0) F109_code ?_
    try simp only [acc, accZ, errA] at *
    simp (disch := first | decide | omega | assumption) only [F109, RAs, RBs, RCs, RDs, REs, RFs, RGs, RHs, RIs, RJs, RKs, RLs, RRt, Nat.reduceLT, Nat.reduceEqDiff, Nat.reduceAdd, Nat.reduceSub, RXa, RXb, RXc, methR, lowL_all, eq_self, take_len, List.drop_replicate, Nat.sub_self, List.replicate_zero, List.append_nil, acc, accZ, errA, *]

/-- arena.Arena.pages -/
def apagesS : Sp := fun args O =>
  match args with
  | [.ref 0 ka 0] => match O[ka]? with
    | some (.arr [.ref 0 kc 0]) => match wgetS [.agg [.ref 0 kc 0], .int .i64 0] O with
      | some (.int .u64 v, Oa) => if 0 ≤ v ∧ v ≤ 1000 then some (.int .i64 v, Oa) else none
      | _ => none
    | _ => none
  | _ => none
theorem apagesS_ok : SpOk Tryz.prog 138 apagesS := by
  intro args O r O' h S
  unfold apagesS at h
  repeat' (split at h)
  all_goals first | (cases h; done) | skip
  all_goals
    simp only [Option.some.injEq, Prod.mk.injEq] at h
    obtain ⟨rfl, rfl⟩ := h
    refine bodyA (tabC_cons wgetS_ok (tabC_nil _)) (n := 0) F138_code ?_
    try simp only [acc, accZ, errA] at *
    simp (disch := first | decide | omega | assumption) only [F138, RAs, RBs, RCs, RDs, REs, RFs, RGs, RHs, RIs, RJs, RKs, RLs, RRt, Nat.reduceLT, Nat.reduceEqDiff, Nat.reduceAdd, Nat.reduceSub, RXa, RXb, RXc, methR, lowL_all, eq_self, take_len, List.drop_replicate, Nat.sub_self, List.replicate_zero, List.append_nil, acc, accZ, errA, *]

/-- arena.Arena.kind -/
def akindS : Sp := fun args O =>
  match args with
  | [.ref 0 ka 0, .int .i64 p] => match O[ka]? with
    | some (.arr [.ref 0 kc 0]) =>
      if 0 ≤ p ∧ p ≤ 1000 then
        match wgetS [.agg [.ref 0 kc 0], .int .i64 (16 + 128 * (p - 1) + 8)] O with
        | some (.int .u64 v, Oa) => some (.int .u64 v, Oa)
        | _ => none
      else none
    | _ => none
  | _ => none
theorem akindS_ok : SpOk Tryz.prog 139 akindS := by
  intro args O r O' h S
  unfold akindS at h
  repeat' (split at h)
  all_goals first | (cases h; done) | skip
  all_goals
    simp only [Option.some.injEq, Prod.mk.injEq] at h
    obtain ⟨rfl, rfl⟩ := h
    refine bodyA (tabC_cons wgetS_ok (tabC_cons placeS_ok (tabC_nil _))) (n := 0) F139_code ?_
    try simp only [acc, accZ, errA] at *
    simp (disch := first | decide | omega | assumption) only [F139, RAs, RBs, RCs, RDs, REs, RFs, RGs, RHs, RIs, RJs, RKs, RLs, RRt, Nat.reduceLT, Nat.reduceEqDiff, Nat.reduceAdd, Nat.reduceSub, RXa, RXb, RXc, methR, lowL_all, eq_self, take_len, List.drop_replicate, Nat.sub_self, List.replicate_zero, List.append_nil, acc, accZ, errA, placeS, *]

/-- arena.Arena.used -/
def ausedS : Sp := fun args O =>
  match args with
  | [.ref 0 ka 0, .int .i64 p] => match akindS [.ref 0 ka 0, .int .i64 p] O with
    | some (.int .u64 v, Oa) => if 1 ≤ v then if v ≤ 6 then some (.bool true, Oa) else some (.bool false, Oa) else some (.bool false, Oa)
    | _ => none
  | _ => none
theorem ausedS_ok : SpOk Tryz.prog 127 ausedS := by
  intro args O r O' h S
  unfold ausedS at h
  repeat' (split at h)
  all_goals first | (cases h; done) | skip
  all_goals
    simp only [Option.some.injEq, Prod.mk.injEq] at h
    obtain ⟨rfl, rfl⟩ := h
    refine bodyA (tabC_cons akindS_ok (tabC_nil _)) (n := 0) F127_code ?_
    try simp only [acc, accZ, errA] at *
    simp (disch := first | decide | omega | assumption) only [F127, RAs, RBs, RCs, RDs, REs, RFs, RGs, RHs, RIs, RJs, RKs, RLs, RRt, Nat.reduceLT, Nat.reduceEqDiff, Nat.reduceAdd, Nat.reduceSub, RXa, RXb, RXc, methR, lowL_all, eq_self, take_len, List.drop_replicate, Nat.sub_self, List.replicate_zero, List.append_nil, acc, accZ, errA, *]

/-- arena.Arena.there -/
def athereS : Sp := fun args O =>
  match args with
  | [.ref 0 ka 0, .int .i64 p] => match anoneS [.ref 0 ka 0] O with
    | some (.bool false, Oa) =>
      if p < 1 then none
      else
        match apagesS [.ref 0 ka 0] Oa with
        | some (.int .i64 v, Ob) => if v < p then none else some (.int .i64 0, Ob)
        | _ => none
    | _ => none
  | _ => none
theorem athereS_ok : SpOk Tryz.prog 126 athereS := by
  intro args O r O' h S
  unfold athereS at h
  repeat' (split at h)
  all_goals first | (cases h; done) | skip
  all_goals
    simp only [Option.some.injEq, Prod.mk.injEq] at h
    obtain ⟨rfl, rfl⟩ := h
    refine bodyA (tabC_cons anoneS_ok (tabC_cons apagesS_ok (tabC_nil _))) (n := 0) F126_code ?_
    try simp only [acc, accZ, errA] at *
    simp (disch := first | decide | omega | assumption) only [F126, RAs, RBs, RCs, RDs, REs, RFs, RGs, RHs, RIs, RJs, RKs, RLs, RRt, Nat.reduceLT, Nat.reduceEqDiff, Nat.reduceAdd, Nat.reduceSub, RXa, RXb, RXc, methR, lowL_all, eq_self, take_len, List.drop_replicate, Nat.sub_self, List.replicate_zero, List.append_nil, acc, accZ, errA, *]

/-- arena.Arena.busy -/
def abusyS : Sp := fun args O =>
  match args with
  | [.ref 0 ka 0, .int .i64 p, .bool false] => match athereS [.ref 0 ka 0, .int .i64 p] O with
    | some (.int .i64 e, Oa) =>
      if e = 0 then
        match ausedS [.ref 0 ka 0, .int .i64 p] Oa with
        | some (.bool true, Ob) => some (.int .i64 0, Ob)
        | _ => none
      else none
    | _ => none
  | _ => none
theorem abusyS_ok : SpOk Tryz.prog 113 abusyS := by
  intro args O r O' h S
  unfold abusyS at h
  repeat' (split at h)
  all_goals first | (cases h; done) | skip
  all_goals
    simp only [Option.some.injEq, Prod.mk.injEq] at h
    obtain ⟨rfl, rfl⟩ := h
    refine bodyA (tabC_cons athereS_ok (tabC_cons ausedS_ok (tabC_nil _))) (n := 0) F113_code ?_
    try simp only [acc, accZ, errA] at *
    simp (disch := first | decide | omega | assumption) only [F113, RAs, RBs, RCs, RDs, REs, RFs, RGs, RHs, RIs, RJs, RKs, RLs, RRt, Nat.reduceLT, Nat.reduceEqDiff, Nat.reduceAdd, Nat.reduceSub, RXa, RXb, RXc, methR, lowL_all, eq_self, take_len, List.drop_replicate, Nat.sub_self, List.replicate_zero, List.append_nil, acc, accZ, errA, *]

/-- arena.Arena.SetRoot -/
def asetRootS : Sp := fun args O =>
  match args with
  | [.ref 0 ka 0, .int .i64 p] => match anoneS [.ref 0 ka 0] O with
    | some (.bool false, Oa) =>
      if 1 ≤ p ∧ p ≤ 1000 then
        match abusyS [.ref 0 ka 0, .int .i64 p, .bool false] Oa with
        | some (.int .i64 e, Ob) =>
          if e = 0 then
            match Ob[ka]? with
            | some (.arr [.ref 0 kc 0]) => match wsetS [.agg [.ref 0 kc 0], .int .i64 3, .int .u64 p] Ob with
              | some (.tup [], Oc) => some (.int .i64 0, Oc)
              | _ => none
            | _ => none
          else none
        | _ => none
      else none
    | _ => none
  | _ => none
theorem asetRootS_ok : SpOk Tryz.prog 64 asetRootS := by
  intro args O r O' h S
  unfold asetRootS at h
  repeat' (split at h)
  all_goals first | (cases h; done) | skip
  all_goals
    simp only [Option.some.injEq, Prod.mk.injEq] at h
    obtain ⟨rfl, rfl⟩ := h
    refine bodyA (tabC_cons anoneS_ok (tabC_cons abusyS_ok (tabC_cons wsetS_ok (tabC_nil _)))) (n := 0) F64_code ?_
    try simp only [acc, accZ, errA] at *
    simp (disch := first | decide | omega | assumption) only [F64, RAs, RBs, RCs, RDs, REs, RFs, RGs, RHs, RIs, RJs, RKs, RLs, RRt, Nat.reduceLT, Nat.reduceEqDiff, Nat.reduceAdd, Nat.reduceSub, RXa, RXb, RXc, methR, lowL_all, eq_self, take_len, List.drop_replicate, Nat.sub_self, List.replicate_zero, List.append_nil, acc, accZ, errA, *]

/-- arena.Arena.Mem -/
def amemS : Sp := fun args O =>
  match args with
  | [.ref 0 ka 0] => match anoneS [.ref 0 ka 0] O with
    | some (.bool false, Oa) =>
      match Oa[ka]? with
      | some (.arr [.ref 0 kc 0]) => match memCopyS [.ref 0 kc 0] Oa with
        | some (.ref 0 k 0, Ob) => some (.ref 0 k 0, Ob)
        | _ => none
      | _ => none
    | _ => none
  | _ => none
theorem amemS_ok : SpOk Tryz.prog 65 amemS := by
  intro args O r O' h S
  unfold amemS at h
  repeat' (split at h)
  all_goals first | (cases h; done) | skip
  all_goals
    simp only [Option.some.injEq, Prod.mk.injEq] at h
    obtain ⟨rfl, rfl⟩ := h
    refine bodyA (tabC_cons anoneS_ok (tabC_cons memCopyS_ok (tabC_nil _))) (n := 0) F65_code ?_
    try simp only [acc, accZ, errA] at *
    simp (disch := first | decide | omega | assumption) only [F65, RAs, RBs, RCs, RDs, REs, RFs, RGs, RHs, RIs, RJs, RKs, RLs, RRt, Nat.reduceLT, Nat.reduceEqDiff, Nat.reduceAdd, Nat.reduceSub, RXa, RXb, RXc, methR, lowL_all, eq_self, take_len, List.drop_replicate, Nat.sub_self, List.replicate_zero, List.append_nil, acc, accZ, errA, *]

/-- descend.Words -/
def dWordsS : Sp := fun args O =>
  match args with
  | [.agg [.int .i64 p, .int .i64 t]] => match dvalidS [.agg [.int .i64 p, .int .i64 t]] O with
    | some (.bool false, Oa) => some (.tup [.int .i64 0, .int .i64 2], Oa)
    | some (.bool true, Oa) => if 1 ≤ p ∧ p ≤ 511 ∧ 1 ≤ t ∧ t ≤ 17 then some (.tup [.int .i64 (16 + 128 * p + t * 2 * 3), .int .i64 0], Oa) else none
    | _ => none
  | _ => none
theorem dWordsS_ok : SpOk Tryz.prog 37 dWordsS := by
  intro args O r O' h S
  unfold dWordsS at h
  repeat' (split at h)
  all_goals first | (cases h; done) | skip
  all_goals
    simp only [Option.some.injEq, Prod.mk.injEq] at h
    obtain ⟨rfl, rfl⟩ := h
    refine bodyA (tabC_cons dvalidS_ok (tabC_cons dnodesS_ok (tabC_nil _))) (n := 0) F37_code ?_
    try simp only [acc, accZ, errA] at *
    simp (disch := first | decide | omega | assumption) only [F37, RAs, RBs, RCs, RDs, REs, RFs, RGs, RHs, RIs, RJs, RKs, RLs, RRt, Nat.reduceLT, Nat.reduceEqDiff, Nat.reduceAdd, Nat.reduceSub, RXa, RXb, RXc, methR, lowL_all, eq_self, take_len, List.drop_replicate, Nat.sub_self, List.replicate_zero, List.append_nil, acc, accZ, errA, dnodesS, *]

/-- arena.Arena.put: the loop 0 -/
def putG (ka : Nat) (p : Int) (cs : List AV) : Nat → Int → Mo → Option (AV × Mo)
  | 0, i, O => if i < 128 then none else some (.tup [], O)
  | n + 1, i, O =>
    if i < 128 then
      if 0 ≤ i then
        match O[ka]? with
        | some (.arr [.ref 0 kc 0]) =>
          match cs[i.toNat]? with
          | some (.int .u64 v) =>
            match wsetS [.agg [.ref 0 kc 0], .int .i64 (16 + 128 * (p - 1) + i), .int .u64 v] O with
            | some (.tup [], Oa) => putG ka p cs n (i + 1) Oa
            | _ => none
          | _ => none
        | _ => none
      else none
    else some (.tup [], O)
theorem putG_loop {S : Ms} (ka : Nat) (p : Int) (cs : List AV) (h0 : cs.length = 128) (h1 : 1 ≤ p) (h2 : p ≤ 511) : ∀ (n : Nat) (i : Int) (O : Mo) (env : Env) (M : Nat) (r : AV) (O' : Mo) (h : putG ka p cs n i O = some (r, O')) (hM : n < M) (e0 : env 0 = .ref 0 ka 0) (e1 : env 1 = .int .i64 p) (e2 : env 5 = .ref (S.length + 1) 0 0) (e3 : env 6 = .int .i64 i),
    W112x0 cfgA (tabC [(105, placeS), (106, wsetS)]) 100000 (loopN (exec cfgA (tabC [(105, placeS), (106, wsetS)]) 100000 B112x0) [] M ⟨leOf 22 env, O, S ++ [[ABlk.arr cs]]⟩) = some (r, O', S) := by
  intro n
  induction n with
  | zero =>
    intro i O env M r O' h hM e0 e1 e2 e3
    obtain ⟨M, rfl⟩ : ∃ M', M = M' + 1 := ⟨M - 1, by omega⟩
    unfold putG at h
    repeat' (split at h)
    all_goals first | (cases h; done) | (dsimp only at h; cases h; done) | (exfalso; omega) | skip
    all_goals
      try dsimp only at h
      try simp only [acc, accZ, errA] at *
      first
        | (simp (disch := first | decide | omega | assumption) only [loop_unf, loopK_N, loopK_E, loopK_R, RAs, RBs, RCs, RDs, REs, RFs, RGs, RHs, RIs, RJs, RKs, RLs, RRt, Nat.reduceLT, Nat.reduceEqDiff, Nat.reduceAdd, Nat.reduceSub, RXa, RXb, RXc, methR, lowL_all, eq_self, take_len, List.drop_replicate, Nat.sub_self, List.replicate_zero, List.append_nil, placeS, *]
           refine noIh _ _ _ _ _ _ h (by omega) ?_ ?_ ?_ ?_
           all_goals simp (disch := first | decide | omega | assumption) only [RAs, RBs, RCs, RDs, REs, RFs, RGs, RHs, RIs, RJs, RKs, RLs, RRt, Nat.reduceLT, Nat.reduceEqDiff, Nat.reduceAdd, Nat.reduceSub, RXa, RXb, RXc, methR, lowL_all, eq_self, take_len, List.drop_replicate, Nat.sub_self, List.replicate_zero, List.append_nil, *])
        | (simp only [Option.some.injEq, Prod.mk.injEq] at h
           obtain ⟨rfl, rfl⟩ := h
           simp (disch := first | decide | omega | assumption) only [W112x0, loop_unf, loopK_N, loopK_E, loopK_R, RAs, RBs, RCs, RDs, REs, RFs, RGs, RHs, RIs, RJs, RKs, RLs, RRt, Nat.reduceLT, Nat.reduceEqDiff, Nat.reduceAdd, Nat.reduceSub, RXa, RXb, RXc, methR, lowL_all, eq_self, take_len, List.drop_replicate, Nat.sub_self, List.replicate_zero, List.append_nil, placeS, *])
  | succ n ih =>
    intro i O env M r O' h hM e0 e1 e2 e3
    obtain ⟨M, rfl⟩ : ∃ M', M = M' + 1 := ⟨M - 1, by omega⟩
    unfold putG at h
    repeat' (split at h)
    all_goals first | (cases h; done) | (dsimp only at h; cases h; done) | (exfalso; omega) | skip
    all_goals
      try dsimp only at h
      try simp only [acc, accZ, errA] at *
      first
        | (have hg_ : putG ka p cs n _ _ = _ := h
           clear hg_
           simp (disch := first | decide | omega | assumption) only [loop_unf, loopK_N, loopK_E, loopK_R, RAs, RBs, RCs, RDs, REs, RFs, RGs, RHs, RIs, RJs, RKs, RLs, RRt, Nat.reduceLT, Nat.reduceEqDiff, Nat.reduceAdd, Nat.reduceSub, RXa, RXb, RXc, methR, lowL_all, eq_self, take_len, List.drop_replicate, Nat.sub_self, List.replicate_zero, List.append_nil, placeS, *]
           refine ih _ _ _ _ _ _ h (by omega) ?_ ?_ ?_ ?_
           all_goals simp (disch := first | decide | omega | assumption) only [RAs, RBs, RCs, RDs, REs, RFs, RGs, RHs, RIs, RJs, RKs, RLs, RRt, Nat.reduceLT, Nat.reduceEqDiff, Nat.reduceAdd, Nat.reduceSub, RXa, RXb, RXc, methR, lowL_all, eq_self, take_len, List.drop_replicate, Nat.sub_self, List.replicate_zero, List.append_nil, *])
        | (simp only [Option.some.injEq, Prod.mk.injEq] at h
           obtain ⟨rfl, rfl⟩ := h
           simp (disch := first | decide | omega | assumption) only [W112x0, loop_unf, loopK_N, loopK_E, loopK_R, RAs, RBs, RCs, RDs, REs, RFs, RGs, RHs, RIs, RJs, RKs, RLs, RRt, Nat.reduceLT, Nat.reduceEqDiff, Nat.reduceAdd, Nat.reduceSub, RXa, RXb, RXc, methR, lowL_all, eq_self, take_len, List.drop_replicate, Nat.sub_self, List.replicate_zero, List.append_nil, placeS, *])

/-- arena.Arena.put -/
def aputS : Sp := fun args O =>
  match args with
  | [.ref 0 ka 0, .int .i64 p, .agg cs] =>
    if cs.length = 128 then if cs.all isW = true then if 1 ≤ p ∧ p ≤ 511 then putG ka p cs (p.toNat - p.toNat + 120) 8 O else none else none else none
  | _ => none
theorem aputS_ok : SpOk Tryz.prog 112 aputS := by
  intro args O r O' h S
  unfold aputS at h
  repeat' (split at h)
  all_goals first | (cases h; done) | skip
  all_goals
    try simp only [acc, accZ, errA] at *
    first
      | (simp only [Option.some.injEq, Prod.mk.injEq] at h
         obtain ⟨rfl, rfl⟩ := h
         refine bodyA (tabC_cons placeS_ok (tabC_cons wsetS_ok (tabC_nil _))) (n := 100000) F112_code ?_
         simp (disch := first | decide | omega | assumption) only [F112, RAs, RBs, RCs, RDs, REs, RFs, RGs, RHs, RIs, RJs, RKs, RLs, RRt, Nat.reduceLT, Nat.reduceEqDiff, Nat.reduceAdd, Nat.reduceSub, RXa, RXb, RXc, methR, lowL_all, eq_self, take_len, List.drop_replicate, Nat.sub_self, List.replicate_zero, List.append_nil, acc, accZ, errA, placeS, *])
      | (refine bodyA (tabC_cons placeS_ok (tabC_cons wsetS_ok (tabC_nil _))) (n := 100000) F112_code ?_
         simp (disch := first | decide | omega | assumption) only [F112, RAs, RBs, RCs, RDs, REs, RFs, RGs, RHs, RIs, RJs, RKs, RLs, RRt, Nat.reduceLT, Nat.reduceEqDiff, Nat.reduceAdd, Nat.reduceSub, RXa, RXb, RXc, methR, lowL_all, eq_self, take_len, List.drop_replicate, Nat.sub_self, List.replicate_zero, List.append_nil, e_loop, acc, accZ, errA, placeS, *]
         refine (fin_skip _ _ _ _ _).trans ?_
         refine putG_loop _ _ _ (by omega) (by omega) (by omega) _ _ _ _ _ _ _ h (by omega) ?_ ?_ ?_ ?_
         all_goals simp (disch := first | decide | omega | assumption) only [RAs, RBs, RCs, RDs, REs, RFs, RGs, RHs, RIs, RJs, RKs, RLs, RRt, Nat.reduceLT, Nat.reduceEqDiff, Nat.reduceAdd, Nat.reduceSub, RXa, RXb, RXc, methR, lowL_all, eq_self, take_len, List.drop_replicate, Nat.sub_self, List.replicate_zero, List.append_nil, *])

/-- arena.Arena.Alloc -/
def aallocS : Sp := fun args O =>
  match args with
  | [.ref 0 ka 0, .agg cs] =>
    if cs.length = 128 then if cs.all isW = true then
      match anoneS [.ref 0 ka 0] O with
      | some (.bool false, Oa) =>
        match slotValidS [.agg cs] Oa with
        | some (.bool true, Ob) =>
          match Ob[ka]? with
          | some (.arr [.ref 0 kc 0]) =>
            match wgetS [.agg [.ref 0 kc 0], .int .i64 1] Ob with
            | some (.int .u64 v, Oc) =>
              if 1 ≤ v ∧ v ≤ 511 then
                match Oc[ka]? with
                | some (.arr [.ref 0 kd 0]) =>
                  match wgetS [.agg [.ref 0 kd 0], .int .i64 (16 + 128 * (v - 1) + 10)] Oc with
                  | some (.int .u64 nx, Od) =>
                    match Od[ka]? with
                    | some (.arr [.ref 0 ke 0]) =>
                      if ke = kd then
                        match wsetS [.agg [.ref 0 kd 0], .int .i64 1, .int .u64 nx] Od with
                        | some (.tup [], Oe) =>
                          match aputS [.ref 0 ka 0, .int .i64 v, .agg cs] Oe with
                          | some (.tup [], Of) => some (.tup [.int .i64 v, .int .i64 0], Of)
                          | _ => none
                        | _ => none
                      else none
                    | _ => none
                  | _ => none
                | _ => none
              else none
            | _ => none
          | _ => none
        | _ => none
      | _ => none
    else none else none
  | _ => none
theorem aallocS_ok : SpOk Tryz.prog 63 aallocS := by
  intro args O r O' h S
  unfold aallocS at h
  repeat' (split at h)
  all_goals first | (cases h; done) | skip
  all_goals
    simp only [Option.some.injEq, Prod.mk.injEq] at h
    obtain ⟨rfl, rfl⟩ := h
    refine bodyA (tabC_cons anoneS_ok (tabC_cons slotValidS_ok (tabC_cons wgetS_ok (tabC_cons wsetS_ok (tabC_cons placeS_ok (tabC_cons aputS_ok (tabC_nil _))))))) (n := 0) F63_code ?_
    try simp only [acc, accZ, errA] at *
    simp (disch := first | decide | omega | assumption) only [F63, RAs, RBs, RCs, RDs, REs, RFs, RGs, RHs, RIs, RJs, RKs, RLs, RRt, Nat.reduceLT, Nat.reduceEqDiff, Nat.reduceAdd, Nat.reduceSub, RXa, RXb, RXc, methR, lowL_all, eq_self, take_len, List.drop_replicate, Nat.sub_self, List.replicate_zero, List.append_nil, acc, accZ, errA, placeS, *]

/-- descend.Format -/
def formatS : Sp := fun args O =>
  match args with
  | [.agg [.int .i64 p, .int .i64 t]] =>
    match dWordsS [.agg [.int .i64 p, .int .i64 t]] O with
    | some (.tup [.int .i64 n, .int .i64 e], Oa) =>
      if e = 0 then
        match newMemS [.int .i64 n] Oa with
        | some (.tup [.nilp, .int .i64 e], Ob) => if e = 0 then none else some (.tup [.nilp, .int .i64 e], Ob)
        | some (.tup [.ref 0 km 0, .int .i64 e], Ob) =>
          if e = 0 then
            match aFormatS [.ref 0 km 0, .int .i64 p] Ob with
            | some (.tup [.ref 0 ka 0, .int .i64 e], Oc) =>
              if e = 0 then
                match slotMakeS [.int .i64 0, .str [], .str []] Oc with
                | some (.tup [.agg cs, .int .i64 e], Od) =>
                  if e = 0 then
                    if cs.length = 128 then if cs.all isW = true then
                      match aallocS [.ref 0 ka 0, .agg cs] Od with
                      | some (.tup [.int .i64 v, .int .i64 e], Oe) =>
                        if e = 0 then
                          match asetRootS [.ref 0 ka 0, .int .i64 v] Oe with
                          | some (.int .i64 e, Of) =>
                            if e = 0 then
                              match amemS [.ref 0 ka 0] Of with
                              | some (.ref 0 k 0, Og) => some (.tup [.ref 0 k 0, .int .i64 0], Og)
                              | _ => none
                            else none
                          | _ => none
                        else none
                      | _ => none
                    else none else none
                  else none
                | _ => none
              else none
            | _ => none
          else none
        | _ => none
      else some (.tup [.nilp, .int .i64 e], Oa)
    | _ => none
  | _ => none
theorem formatS_ok : SpOk Tryz.prog 14 formatS := by
  intro args O r O' h S
  unfold formatS at h
  repeat' (split at h)
  all_goals first | (cases h; done) | skip
  all_goals
    simp only [Option.some.injEq, Prod.mk.injEq] at h
    obtain ⟨rfl, rfl⟩ := h
    refine bodyA (tabC_cons dWordsS_ok (tabC_cons newMemS_ok (tabC_cons aFormatS_ok (tabC_cons slotMakeS_ok (tabC_cons aallocS_ok (tabC_cons asetRootS_ok (tabC_cons amemS_ok (tabC_nil _)))))))) (n := 0) F14_code ?_
    try simp only [acc, accZ, errA] at *
    simp (disch := first | decide | omega | assumption) only [F14, RAs, RBs, RCs, RDs, REs, RFs, RGs, RHs, RIs, RJs, RKs, RLs, RRt, Nat.reduceLT, Nat.reduceEqDiff, Nat.reduceAdd, Nat.reduceSub, RXa, RXb, RXc, methR, lowL_all, eq_self, take_len, List.drop_replicate, Nat.sub_self, List.replicate_zero, List.append_nil, acc, accZ, errA, *]

end Den
