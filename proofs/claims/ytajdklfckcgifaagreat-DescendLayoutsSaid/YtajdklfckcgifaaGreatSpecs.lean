/- Contracts of a memory's accesses, and of an arena of one access. -/
import Derived.Test.YtajdklfckcgifaaGreatMemC
import Derived.Test.YtajdklfckcgifaaGreatDenG6
import Derived.Test.YtajdklfckcgifaaGreatCodeW
import Derived.Test.YtajdklfckcgifaaGreatDenTop2
import Derived.Test.YtajdklfckcgifaaGreatL

set_option maxRecDepth 100000
set_option maxHeartbeats 1000000
set_option linter.unusedSimpArgs false
set_option linter.unusedVariables false
namespace Den
open Go Go.Proofs

/-- mem.Mem.Load -/
def loadS : Sp := fun args O =>
  match args with
  | [.ref 0 k off, .int .i64 w] => match doS [.ref 0 k off, acc 1 w 0 0] O with
    | some (.tup [.agg [.int .i64 _, .int .i64 _, .int .u64 b, .int .u64 _], .int .i64 e], O') => some (.tup [.int .u64 b, .int .i64 e], O')
    | _ => none
  | _ => none
theorem loadS_ok : SpOk Tryz.prog 59 loadS := by
  intro args O r O' h S
  unfold loadS at h
  repeat' (split at h)
  all_goals first | (cases h; done) | skip
  all_goals
    simp only [Option.some.injEq, Prod.mk.injEq] at h
    obtain ⟨rfl, rfl⟩ := h
    refine bodyA (tabC_cons doS_ok (tabC_nil _)) (n := 0) F59_code ?_
    try simp only [acc, accZ, errA] at *
    simp (disch := first | decide | omega | assumption) only [F59, RAs, RBs, RCs, RDs, REs, RFs, RGs, RHs, RIs, RJs, RKs, RLs, RRt, Nat.reduceLT, Nat.reduceEqDiff, Nat.reduceAdd, Nat.reduceSub, RXa, RXb, RXc, acc, accZ, errA, *]

/-- mem.Mem.Store -/
def storeS : Sp := fun args O =>
  match args with
  | [.ref 0 k off, .int .i64 w, .int .u64 v] => match doS [.ref 0 k off, acc 2 w 0 v] O with
    | some (.tup [.agg [.int .i64 _, .int .i64 _, .int .u64 _, .int .u64 _], .int .i64 e], O') => some (.int .i64 e, O')
    | _ => none
  | _ => none
theorem storeS_ok : SpOk Tryz.prog 55 storeS := by
  intro args O r O' h S
  unfold storeS at h
  repeat' (split at h)
  all_goals first | (cases h; done) | skip
  all_goals
    simp only [Option.some.injEq, Prod.mk.injEq] at h
    obtain ⟨rfl, rfl⟩ := h
    refine bodyA (tabC_cons doS_ok (tabC_nil _)) (n := 0) F55_code ?_
    try simp only [acc, accZ, errA] at *
    simp (disch := first | decide | omega | assumption) only [F55, RAs, RBs, RCs, RDs, REs, RFs, RGs, RHs, RIs, RJs, RKs, RLs, RRt, Nat.reduceLT, Nat.reduceEqDiff, Nat.reduceAdd, Nat.reduceSub, RXa, RXb, RXc, acc, accZ, errA, *]

end Den

/- Contracts of the queue nodes, and of the plain queue lock's programs. -/
set_option maxRecDepth 100000
set_option maxHeartbeats 2000000
set_option linter.unusedSimpArgs false
set_option linter.unusedVariables false
namespace Den
open Go Go.Proofs

/-- Methods by their types. -/
theorem methR : cfgA.meth 150 "Load" = some 260 ∧ mok Tryz.prog 150 "Load" = true ∧ cfgA.meth 150 "Store" = some 261 ∧ mok Tryz.prog 150 "Store" = true ∧ cfgA.meth 150 "CAS" = some 281 ∧ mok Tryz.prog 150 "CAS" = true ∧ cfgA.meth 150 "Swap" = some 282 ∧ mok Tryz.prog 150 "Swap" = true ∧ cfgA.meth 203 "Step" = some 266 ∧ mok Tryz.prog 203 "Step" = true ∧ cfgA.meth 203 "Done" = some 264 ∧ mok Tryz.prog 203 "Done" = true ∧ cfgA.meth 203 "Copy" = some 263 ∧ mok Tryz.prog 203 "Copy" = true ∧ cfgA.meth 261 "Step" = some 277 ∧ mok Tryz.prog 261 "Step" = true ∧ cfgA.meth 261 "Done" = some 275 ∧ mok Tryz.prog 261 "Done" = true ∧ cfgA.meth 261 "Copy" = some 274 ∧ mok Tryz.prog 261 "Copy" = true := ⟨by kernel_rfl, by kernel_rfl, by kernel_rfl, by kernel_rfl, by kernel_rfl, by kernel_rfl, by kernel_rfl, by kernel_rfl, by kernel_rfl, by kernel_rfl, by kernel_rfl, by kernel_rfl, by kernel_rfl, by kernel_rfl, by kernel_rfl, by kernel_rfl, by kernel_rfl, by kernel_rfl, by kernel_rfl, by kernel_rfl⟩

/-- qnode.Nodes.zero -/
def nzeroS : Sp := fun args O =>
  match args with
  | [.ref 0 k 0] => match O[k]? with
    | some (.arr [.int .i64 b, .int .i64 t]) => if 1 ≤ t then some (.bool false, O) else none
    | _ => none
  | _ => none
theorem nzeroS_ok : SpOk Tryz.prog 56 nzeroS := by
  intro args O r O' h S
  unfold nzeroS at h
  repeat' (split at h)
  all_goals first | (cases h; done) | skip
  all_goals
    simp only [Option.some.injEq, Prod.mk.injEq] at h
    obtain ⟨rfl, rfl⟩ := h
    refine bodyA (tabC_nil _) (n := 0) F56_code ?_
    try simp only [acc, accZ, errA] at *
    simp (disch := first | decide | omega | assumption) only [F56, RAs, RBs, RCs, RDs, REs, RFs, RGs, RHs, RIs, RJs, RKs, RLs, RRt, Nat.reduceLT, Nat.reduceEqDiff, Nat.reduceAdd, Nat.reduceSub, RXa, RXb, RXc, methR, acc, accZ, errA, *]

/-- qnode.Nodes.many -/
def nmanyS : Sp := fun args O =>
  match args with
  | [.ref 0 k 0] => match O[k]? with
    | some (.arr [.int .i64 b, .int .i64 t]) => if 1 ≤ t ∧ t ≤ 64 then some (.int .i64 (t * 2), O) else none
    | _ => none
  | _ => none
theorem nmanyS_ok : SpOk Tryz.prog 57 nmanyS := by
  intro args O r O' h S
  unfold nmanyS at h
  repeat' (split at h)
  all_goals first | (cases h; done) | skip
  all_goals
    simp only [Option.some.injEq, Prod.mk.injEq] at h
    obtain ⟨rfl, rfl⟩ := h
    refine bodyA (tabC_cons nzeroS_ok (tabC_nil _)) (n := 0) F57_code ?_
    try simp only [acc, accZ, errA] at *
    simp (disch := first | decide | omega | assumption) only [F57, RAs, RBs, RCs, RDs, REs, RFs, RGs, RHs, RIs, RJs, RKs, RLs, RRt, Nat.reduceLT, Nat.reduceEqDiff, Nat.reduceAdd, Nat.reduceSub, RXa, RXb, RXc, methR, acc, accZ, errA, nzeroS, *]

end Den

/- Contracts of the plain queue lock's steps. -/
set_option maxRecDepth 100000
set_option maxHeartbeats 4000000
set_option linter.unusedSimpArgs false
set_option linter.unusedVariables false
namespace Den
open Go Go.Proofs

end Den

/- Contracts of a layout's places, of the queue lock's beginnings. -/
set_option maxRecDepth 100000
set_option maxHeartbeats 2000000
set_option linter.unusedSimpArgs false
set_option linter.unusedVariables false
namespace Den
open Go Go.Proofs

/-- descend.valid -/
def dvalidS : Sp := fun args O =>
  match args with
  | [.agg [.int .i64 p, .int .i64 t]] => if p < 1 then some (.bool false, O) else if 511 < p then some (.bool false, O) else if t < 1 then some (.bool false, O) else if 17 < t then some (.bool false, O) else some (.bool true, O)
  | _ => none
theorem dvalidS_ok : SpOk Tryz.prog 38 dvalidS := by
  intro args O r O' h S
  unfold dvalidS at h
  repeat' (split at h)
  all_goals first | (cases h; done) | skip
  all_goals
    simp only [Option.some.injEq, Prod.mk.injEq] at h
    obtain ⟨rfl, rfl⟩ := h
    refine bodyA (tabC_nil _) (n := 0) F38_code ?_
    try simp only [acc, accZ, errA] at *
    simp (disch := first | decide | omega | assumption) only [F38, RAs, RBs, RCs, RDs, REs, RFs, RGs, RHs, RIs, RJs, RKs, RLs, RRt, Nat.reduceLT, Nat.reduceEqDiff, Nat.reduceAdd, Nat.reduceSub, RXa, RXb, RXc, methR, acc, accZ, errA, *]

/-- descend.nodes -/
def dnodesS : Sp := fun args O =>
  match args with
  | [.agg [.int .i64 p, .int .i64 t]] => if 1 ≤ p ∧ p ≤ 511 then some (.int .i64 (16 + 128 * p), O) else none
  | _ => none
theorem dnodesS_ok : SpOk Tryz.prog 40 dnodesS := by
  intro args O r O' h S
  unfold dnodesS at h
  repeat' (split at h)
  all_goals first | (cases h; done) | skip
  all_goals
    simp only [Option.some.injEq, Prod.mk.injEq] at h
    obtain ⟨rfl, rfl⟩ := h
    refine bodyA (tabC_nil _) (n := 0) F40_code ?_
    try simp only [acc, accZ, errA] at *
    simp (disch := first | decide | omega | assumption) only [F40, RAs, RBs, RCs, RDs, REs, RFs, RGs, RHs, RIs, RJs, RKs, RLs, RRt, Nat.reduceLT, Nat.reduceEqDiff, Nat.reduceAdd, Nat.reduceSub, RXa, RXb, RXc, methR, acc, accZ, errA, *]

/-- qnode.New -/
def nnewS : Sp := fun args O =>
  match args with
  | [.int .i64 b, .int .i64 t] =>
    if 0 ≤ b ∧ b ≤ 65424 ∧ 1 ≤ t ∧ t ≤ 17 then some (.tup [.ref 0 O.length 0, .int .i64 0], O ++ [.arr [.int .i64 b, .int .i64 t]]) else none
  | _ => none
theorem nnewS_ok : SpOk Tryz.prog 39 nnewS := by
  intro args O r O' h S
  unfold nnewS at h
  repeat' (split at h)
  all_goals first | (cases h; done) | skip
  all_goals
    simp only [Option.some.injEq, Prod.mk.injEq] at h
    obtain ⟨rfl, rfl⟩ := h
    refine bodyA (tabC_nil _) (n := 0) F39_code ?_
    try simp only [acc, accZ, errA] at *
    simp (disch := first | decide | omega | assumption) only [F39, RAs, RBs, RCs, RDs, REs, RFs, RGs, RHs, RIs, RJs, RKs, RLs, RRt, Nat.reduceLT, Nat.reduceEqDiff, Nat.reduceAdd, Nat.reduceSub, RXa, RXb, RXc, methR, acc, accZ, errA, *]

/-- descend.Nodes -/
def dNodesS : Sp := fun args O =>
  match args with
  | [.agg [.int .i64 p, .int .i64 t]] => if p < 1 then some (.tup [.nilp, .int .i64 2], O) else if 511 < p then some (.tup [.nilp, .int .i64 2], O) else if t < 1 then some (.tup [.nilp, .int .i64 2], O) else if 17 < t then some (.tup [.nilp, .int .i64 2], O) else some (.tup [.ref 0 O.length 0, .int .i64 0], O ++ [.arr [.int .i64 (16 + 128 * p), .int .i64 t]])
  | _ => none
theorem dNodesS_ok : SpOk Tryz.prog 6 dNodesS := by
  intro args O r O' h S
  unfold dNodesS at h
  repeat' (split at h)
  all_goals first | (cases h; done) | skip
  all_goals
    simp only [Option.some.injEq, Prod.mk.injEq] at h
    obtain ⟨rfl, rfl⟩ := h
    refine bodyA (tabC_cons dvalidS_ok (tabC_cons dnodesS_ok (tabC_cons nnewS_ok (tabC_nil _)))) (n := 0) F6_code ?_
    try simp only [acc, accZ, errA] at *
    simp (disch := first | decide | omega | assumption) only [F6, RAs, RBs, RCs, RDs, REs, RFs, RGs, RHs, RIs, RJs, RKs, RLs, RRt, Nat.reduceLT, Nat.reduceEqDiff, Nat.reduceAdd, Nat.reduceSub, RXa, RXb, RXc, methR, acc, accZ, errA, dvalidS, dnodesS, nnewS, *]

/-- qnode.Nodes.Base -/
def nbaseS : Sp := fun args O =>
  match args with
  | [.ref 0 k 0] => match O[k]? with
    | some (.arr [.int .i64 b, .int .i64 t]) => if 1 ≤ t then some (.int .i64 b, O) else none
    | _ => none
  | _ => none
theorem nbaseS_ok : SpOk Tryz.prog 13 nbaseS := by
  intro args O r O' h S
  unfold nbaseS at h
  repeat' (split at h)
  all_goals first | (cases h; done) | skip
  all_goals
    simp only [Option.some.injEq, Prod.mk.injEq] at h
    obtain ⟨rfl, rfl⟩ := h
    refine bodyA (tabC_cons nzeroS_ok (tabC_nil _)) (n := 0) F13_code ?_
    try simp only [acc, accZ, errA] at *
    simp (disch := first | decide | omega | assumption) only [F13, RAs, RBs, RCs, RDs, REs, RFs, RGs, RHs, RIs, RJs, RKs, RLs, RRt, Nat.reduceLT, Nat.reduceEqDiff, Nat.reduceAdd, Nat.reduceSub, RXa, RXb, RXc, methR, acc, accZ, errA, nzeroS, *]

/-- qnode.Nodes.Len -/
def nlenS : Sp := fun args O =>
  match args with
  | [.ref 0 k 0] => match O[k]? with
    | some (.arr [.int .i64 b, .int .i64 t]) => if 1 ≤ t ∧ t ≤ 64 then some (.int .i64 (t * 2 * 3), O) else none
    | _ => none
  | _ => none
theorem nlenS_ok : SpOk Tryz.prog 15 nlenS := by
  intro args O r O' h S
  unfold nlenS at h
  repeat' (split at h)
  all_goals first | (cases h; done) | skip
  all_goals
    simp only [Option.some.injEq, Prod.mk.injEq] at h
    obtain ⟨rfl, rfl⟩ := h
    refine bodyA (tabC_cons nmanyS_ok (tabC_nil _)) (n := 0) F15_code ?_
    try simp only [acc, accZ, errA] at *
    simp (disch := first | decide | omega | assumption) only [F15, RAs, RBs, RCs, RDs, REs, RFs, RGs, RHs, RIs, RJs, RKs, RLs, RRt, Nat.reduceLT, Nat.reduceEqDiff, Nat.reduceAdd, Nat.reduceSub, RXa, RXb, RXc, methR, acc, accZ, errA, nmanyS, *]

/-- qnode.Nodes.Threads -/
def nthreadsS : Sp := fun args O =>
  match args with
  | [.ref 0 k 0] => match O[k]? with
    | some (.arr [.int .i64 b, .int .i64 t]) => if 1 ≤ t ∧ t ≤ 64 then some (.int .i64 (t * 2 / 2), O) else none
    | _ => none
  | _ => none
theorem nthreadsS_ok : SpOk Tryz.prog 14 nthreadsS := by
  intro args O r O' h S
  unfold nthreadsS at h
  repeat' (split at h)
  all_goals first | (cases h; done) | skip
  all_goals
    simp only [Option.some.injEq, Prod.mk.injEq] at h
    obtain ⟨rfl, rfl⟩ := h
    refine bodyA (tabC_cons nmanyS_ok (tabC_nil _)) (n := 0) F14_code ?_
    try simp only [acc, accZ, errA] at *
    simp (disch := first | decide | omega | assumption) only [F14, RAs, RBs, RCs, RDs, REs, RFs, RGs, RHs, RIs, RJs, RKs, RLs, RRt, Nat.reduceLT, Nat.reduceEqDiff, Nat.reduceAdd, Nat.reduceSub, RXa, RXb, RXc, methR, acc, accZ, errA, nmanyS, *]

end Den

/- Contracts of an arena's beginning. -/
set_option maxRecDepth 100000
set_option maxHeartbeats 4000000
set_option linter.unusedSimpArgs false
set_option linter.unusedVariables false
namespace Den
open Go Go.Proofs

def isW : AV → Bool
  | .int .u64 _ => true
  | _ => false
theorem isW_low {lim : Nat} {v : AV} (h : isW v = true) : v.low lim = true ∧ low1 lim v = true := by
  cases v <;> first | (cases h; done) | skip
  exact ⟨rfl, rfl⟩
theorem lowL_all {lim : Nat} : ∀ {cs : List AV} (h : cs.all isW = true), lowL lim cs = true
  | [], _ => rfl
  | c :: cs, h => by
    simp only [List.all_cons, Bool.and_eq_true] at h
    rw [lowL_cons, (isW_low h.1).2, lowL_all h.2]; rfl
theorem all_low {lim : Nat} {cs : List AV} (h : cs.all isW = true) : cs.all (AV.low lim) = true :=
  List.all_eq_true.2 fun v hv => (isW_low (List.all_eq_true.1 h v hv)).1
theorem take_len {α : Type} {n : Nat} {cs : List α} (h : cs.length = n) : cs.take n = cs := List.take_of_length_le (by omega)
theorem mks_o {n : Nat} {O : Mo} {S : Ms} {z : AV} (h : n ≤ 1000000) : mksC [z] 1 8 true (some n) (some n) O S = some (.bref 0 O.length 0 n n, O ++ [.buf 1 (repCells [z] n)], S) := by
  have h1 : n * 8 ≤ 2 ^ 47 := by omega
  have h2 : n < 2 ^ 62 := by omega
  simp [mksC, h1, h2, newD, newK, newO, newS]
theorem conts_o {O : Mo} {S : Ms} {k n : Nat} {ws : List AV} (h : O[k]? = some (.buf 1 ws)) (hl : ws.length = n) : conts O S 1 (.bref 0 k 0 n n) = some (ws, n) := by
  subst hl; simp [conts, gm_0, h]
theorem app_emp_o {O : Mo} {S : Ms} {ws : List AV} {n : Nat} (hn : n ≤ 1000000) (h : ws.all isW = true) : appC 1 8 true .emp (some (ws, n)) O S = some (.bref 0 O.length 0 n ws.length, O ++ [.buf 1 ws], S) := by
  have h1 : n * 8 * 2 ≤ 140737488355328 := by omega
  have := all_low (lim := 1) h
  simp [appC, appA, newD, newK, newO, newS, h1, this]
theorem rep_eq (z : AV) : ∀ n : Nat, repCells [z] n = List.replicate n z
  | 0 => rfl
  | n + 1 => by rw [repCells, rep_eq z n]; rfl
/-- mem.New -/
def newMemS : Sp := fun args O =>
  match args with
  | [.int .i64 n] =>
    if n < 1 then some (.tup [.nilp, .int .i64 2], O)
    else if 65536 < n then some (.tup [.nilp, .int .i64 2], O)
    else some (.tup [.ref 0 (O ++ [ABlk.buf 1 (repCells [.int .u64 0] n.toNat)]).length 0, .int .i64 0], O ++ [.buf 1 (repCells [.int .u64 0] n.toNat)] ++ [.arr [.bref 0 O.length 0 n.toNat n.toNat]])
  | _ => none
theorem newMemS_ok : SpOk Tryz.prog 42 newMemS := by
  intro args O r O' h S
  unfold newMemS at h
  repeat' (split at h)
  all_goals first | (cases h; done) | skip
  all_goals
    simp only [Option.some.injEq, Prod.mk.injEq] at h
    obtain ⟨rfl, rfl⟩ := h
    refine bodyA (tabC_nil _) (n := 0) F42_code ?_
    try simp only [acc, accZ, errA] at *
    simp (disch := first | decide | omega | assumption) only [F42, RAs, RBs, RCs, RDs, REs, RFs, RGs, RHs, RIs, RJs, RKs, RLs, RRt, Nat.reduceLT, Nat.reduceEqDiff, Nat.reduceAdd, Nat.reduceSub, RXa, RXb, RXc, methR, mks_o, lowL_all, take_len, eq_self, acc, accZ, errA, *]

/-- mem.Mem.Len -/
def lenS : Sp := fun args O =>
  match args with
  | [.ref 0 k 0] => match O[k]? with
    | some (.arr [.bref 0 k2 0 n tot]) => match O[k2]? with
      | some (.buf 1 ws) => if n = tot then if ws.length = tot then if ws.length = 0 then some (.int .i64 0, O) else some (.int .i64 n, O) else none else none
      | _ => none
    | _ => none
  | _ => none
theorem lenS_ok : SpOk Tryz.prog 16 lenS := by
  intro args O r O' h S
  unfold lenS at h
  split at h
  case h_2 => cases h
  rename_i k
  split at h
  case h_2 => cases h
  rename_i k2 n tot h1
  split at h
  case h_2 => cases h
  rename_i ws h2
  split at h
  case isFalse => cases h
  rename_i h3
  split at h
  case isFalse => cases h
  rename_i h4
  subst h3 h4
  have H : MemO O k 0 k2 [.bref 0 k2 0 ws.length ws.length] ws := ⟨h1, rfl, h2⟩
  split at h <;> rename_i h5 <;> cases h
  · refine bodyA (tabC_cons zeroS_ok (tabC_nil _)) (n := 0) F16_code ?_
    simp (disch := first | decide | omega | assumption) only [F16, RAs, RBs, RCs, RDs, REs, RFs, RGs, RHs, RIs, RJs, RKs, RLs, RRt, Nat.reduceLT, Nat.reduceEqDiff, Nat.reduceAdd, Nat.reduceSub, RXa, RXb, RXc, methR, mks_o, lowL_all, take_len, eq_self, zeroS_eq H, h5]
  · refine bodyA (tabC_cons zeroS_ok (tabC_nil _)) (n := 0) F16_code ?_
    simp (disch := first | decide | omega | assumption) only [F16, RAs, RBs, RCs, RDs, REs, RFs, RGs, RHs, RIs, RJs, RKs, RLs, RRt, Nat.reduceLT, Nat.reduceEqDiff, Nat.reduceAdd, Nat.reduceSub, RXa, RXb, RXc, methR, mks_o, lowL_all, take_len, eq_self, zeroS_eq H, h5, h1]

/-- slices.Clone[[]uint64,uint64] -/
def cloneS : Sp := fun args O =>
  match args with
  | [.bref 0 k 0 n tot] => match O[k]? with
    | some (.buf 1 ws) => if n = tot then if ws.length = n then if n ≤ 65536 then if ws.all isW = true then if 1 ≤ n then some (.bref 0 O.length 0 n ws.length, O ++ [.buf 1 ws]) else none else none else none else none else none
    | _ => none
  | _ => none
theorem cloneS_ok : SpOk Tryz.prog 69 cloneS := by
  intro args O r O' h S
  unfold cloneS at h
  split at h
  case h_2 => cases h
  rename_i k n tot
  split at h
  case h_2 => cases h
  rename_i ws h1
  split at h
  case isFalse => cases h
  rename_i h2
  split at h
  case isFalse => cases h
  rename_i h3
  split at h
  case isFalse => cases h
  rename_i h4
  split at h
  case isFalse => cases h
  rename_i h5
  split at h
  case isFalse => cases h
  rename_i h6
  cases h
  subst h2
  have hn : isNilA .slice (.bref 0 k 0 n n) = some false := by
    have : n ≠ 0 := by omega
    simp [isNilA, this]
  refine bodyA (tabC_nil _) (n := 0) F69_code ?_
  have hb : bslC 1 0 false false (some []) O (S ++ [[]]) = some (.emp, O, S ++ [[]]) := rfl
  simp (disch := first | decide | omega | assumption) only [F69, RAs, RBs, RCs, RDs, REs, RFs, RGs, RHs, RIs, RJs, RKs, RLs, RRt, Nat.reduceLT, Nat.reduceEqDiff, Nat.reduceAdd, Nat.reduceSub, RXa, RXb, RXc, methR, mks_o, lowL_all, take_len, eq_self, hn, rep0, hb, conts_o h1 h3, app_emp_o (by omega : n ≤ 1000000) h5]

/-- mem.Mem.Copy -/
def memCopyS : Sp := fun args O =>
  match args with
  | [.ref 0 k 0] =>
    match zeroS [.ref 0 k 0] O with
    | some (.bool true, Oa) => some (.nilp, Oa)
    | some (.bool false, Oa) =>
      match Oa[k]? with
      | some (.arr [.bref 0 k2 0 n tot]) => match cloneS [.bref 0 k2 0 n tot] Oa with
        | some (.bref 0 k3 0 n3 t3, Ob) => some (.ref 0 Ob.length 0, Ob ++ [.arr [.bref 0 k3 0 n3 t3]])
        | _ => none
      | _ => none
    | _ => none
  | _ => none
theorem memCopyS_ok : SpOk Tryz.prog 61 memCopyS := by
  intro args O r O' h S
  unfold memCopyS at h
  repeat' (split at h)
  all_goals first | (cases h; done) | skip
  all_goals
    simp only [Option.some.injEq, Prod.mk.injEq] at h
    obtain ⟨rfl, rfl⟩ := h
    refine bodyA (tabC_cons zeroS_ok (tabC_cons cloneS_ok (tabC_nil _))) (n := 0) F61_code ?_
    try simp only [acc, accZ, errA] at *
    simp (disch := first | decide | omega | assumption) only [F61, RAs, RBs, RCs, RDs, REs, RFs, RGs, RHs, RIs, RJs, RKs, RLs, RRt, Nat.reduceLT, Nat.reduceEqDiff, Nat.reduceAdd, Nat.reduceSub, RXa, RXb, RXc, methR, mks_o, lowL_all, take_len, eq_self, acc, accZ, errA, *]

/-- arena.words.set -/
def wsetS : Sp := fun args O =>
  match args with
  | [.agg [.ref 0 k 0], .int .i64 i, .int .u64 v] => match storeS [.ref 0 k 0, .int .i64 i, .int .u64 v] O with
    | some (.int .i64 e, O') => some (.tup [], O')
    | _ => none
  | _ => none
theorem wsetS_ok : SpOk Tryz.prog 82 wsetS := by
  intro args O r O' h S
  unfold wsetS at h
  repeat' (split at h)
  all_goals first | (cases h; done) | skip
  all_goals
    simp only [Option.some.injEq, Prod.mk.injEq] at h
    obtain ⟨rfl, rfl⟩ := h
    refine bodyA (tabC_cons storeS_ok (tabC_nil _)) (n := 0) F82_code ?_
    try simp only [acc, accZ, errA] at *
    simp (disch := first | decide | omega | assumption) only [F82, RAs, RBs, RCs, RDs, REs, RFs, RGs, RHs, RIs, RJs, RKs, RLs, RRt, Nat.reduceLT, Nat.reduceEqDiff, Nat.reduceAdd, Nat.reduceSub, RXa, RXb, RXc, methR, mks_o, lowL_all, take_len, eq_self, acc, accZ, errA, *]

/-- arena.words.get -/
def wgetS : Sp := fun args O =>
  match args with
  | [.agg [.ref 0 k 0], .int .i64 i] => match loadS [.ref 0 k 0, .int .i64 i] O with
    | some (.tup [.int .u64 b, .int .i64 e], O') => some (.int .u64 b, O')
    | _ => none
  | _ => none
theorem wgetS_ok : SpOk Tryz.prog 64 wgetS := by
  intro args O r O' h S
  unfold wgetS at h
  repeat' (split at h)
  all_goals first | (cases h; done) | skip
  all_goals
    simp only [Option.some.injEq, Prod.mk.injEq] at h
    obtain ⟨rfl, rfl⟩ := h
    refine bodyA (tabC_cons loadS_ok (tabC_nil _)) (n := 0) F64_code ?_
    try simp only [acc, accZ, errA] at *
    simp (disch := first | decide | omega | assumption) only [F64, RAs, RBs, RCs, RDs, REs, RFs, RGs, RHs, RIs, RJs, RKs, RLs, RRt, Nat.reduceLT, Nat.reduceEqDiff, Nat.reduceAdd, Nat.reduceSub, RXa, RXb, RXc, methR, mks_o, lowL_all, take_len, eq_self, acc, accZ, errA, *]

/-- arena.place -/
def placeS : Sp := fun args O =>
  match args with
  | [.int .i64 p, .int .i64 i] => if 0 ≤ p ∧ p ≤ 1000 ∧ 0 ≤ i ∧ i ≤ 1000 then some (.int .i64 (16 + 128 * (p - 1) + i), O) else none
  | _ => none
theorem placeS_ok : SpOk Tryz.prog 60 placeS := by
  intro args O r O' h S
  unfold placeS at h
  repeat' (split at h)
  all_goals first | (cases h; done) | skip
  all_goals
    simp only [Option.some.injEq, Prod.mk.injEq] at h
    obtain ⟨rfl, rfl⟩ := h
    refine bodyA (tabC_nil _) (n := 0) F60_code ?_
    try simp only [acc, accZ, errA] at *
    simp (disch := first | decide | omega | assumption) only [F60, RAs, RBs, RCs, RDs, REs, RFs, RGs, RHs, RIs, RJs, RKs, RLs, RRt, Nat.reduceLT, Nat.reduceEqDiff, Nat.reduceAdd, Nat.reduceSub, RXa, RXb, RXc, methR, mks_o, lowL_all, take_len, eq_self, acc, accZ, errA, *]

/-- arena.Format: the loop 1 -/
def fmtB (kc : Nat) (pages : Int) : Nat → Int → Mo → Option (AV × Mo)
  | 0, p, O => if p < pages then none else some (.tup [.ref 0 O.length 0, .int .i64 0], O ++ [.arr [.ref 0 kc 0]])
  | n + 1, p, O =>
    if p < pages then
      if p < 1 then none
      else
        match wsetS [.agg [.ref 0 kc 0], .int .i64 (16 + 128 * (p - 1) + 10), .int .u64 (p + 1)] O with
        | some (.tup [], Oa) => fmtB kc pages n (p + 1) Oa
        | _ => none
    else some (.tup [.ref 0 O.length 0, .int .i64 0], O ++ [.arr [.ref 0 kc 0]])
theorem fmtB_loop {S : Ms} (kc : Nat) (pages : Int) (h0 : pages ≤ 511) : ∀ (n : Nat) (p : Int) (O : Mo) (env : Env) (M : Nat) (r : AV) (O' : Mo) (h : fmtB kc pages n p O = some (r, O')) (hM : n < M) (e0 : env 1 = .int .i64 pages) (e1 : env 6 = .ref (S.length + 1) 0 0) (e2 : env 8 = .int .i64 p),
    W43x1 cfgA (tabC [(16, lenS), (60, placeS), (61, memCopyS), (82, wsetS)]) 100000 (loopN (exec cfgA (tabC [(16, lenS), (60, placeS), (61, memCopyS), (82, wsetS)]) 100000 B43x1) [] M ⟨leOf 64 env, O, S ++ [[ABlk.arr [.ref 0 kc 0]]]⟩) = some (r, O', S) := by
  intro n
  induction n with
  | zero =>
    intro p O env M r O' h hM e0 e1 e2
    obtain ⟨M, rfl⟩ : ∃ M', M = M' + 1 := ⟨M - 1, by omega⟩
    unfold fmtB at h
    repeat' (split at h)
    all_goals first | (cases h; done) | (dsimp only at h; cases h; done) | (exfalso; omega) | skip
    all_goals
      try dsimp only at h
      try simp only [acc, accZ, errA] at *
      first
        | (simp (disch := first | decide | omega | assumption) only [loop_unf, loopK_N, loopK_E, loopK_R, RAs, RBs, RCs, RDs, REs, RFs, RGs, RHs, RIs, RJs, RKs, RLs, RRt, Nat.reduceLT, Nat.reduceEqDiff, Nat.reduceAdd, Nat.reduceSub, RXa, RXb, RXc, methR, mks_o, lowL_all, take_len, eq_self, placeS, *]
           refine noIh _ _ _ _ _ _ h (by omega) ?_ ?_ ?_
           all_goals simp (disch := first | decide | omega | assumption) only [RAs, RBs, RCs, RDs, REs, RFs, RGs, RHs, RIs, RJs, RKs, RLs, RRt, Nat.reduceLT, Nat.reduceEqDiff, Nat.reduceAdd, Nat.reduceSub, RXa, RXb, RXc, methR, mks_o, lowL_all, take_len, eq_self, *])
        | (simp only [Option.some.injEq, Prod.mk.injEq] at h
           obtain ⟨rfl, rfl⟩ := h
           simp (disch := first | decide | omega | assumption) only [W43x1, loop_unf, loopK_N, loopK_E, loopK_R, RAs, RBs, RCs, RDs, REs, RFs, RGs, RHs, RIs, RJs, RKs, RLs, RRt, Nat.reduceLT, Nat.reduceEqDiff, Nat.reduceAdd, Nat.reduceSub, RXa, RXb, RXc, methR, mks_o, lowL_all, take_len, eq_self, placeS, *])
  | succ n ih =>
    intro p O env M r O' h hM e0 e1 e2
    obtain ⟨M, rfl⟩ : ∃ M', M = M' + 1 := ⟨M - 1, by omega⟩
    unfold fmtB at h
    repeat' (split at h)
    all_goals first | (cases h; done) | (dsimp only at h; cases h; done) | (exfalso; omega) | skip
    all_goals
      try dsimp only at h
      try simp only [acc, accZ, errA] at *
      first
        | (have hg_ : fmtB kc pages n _ _ = _ := h
           clear hg_
           simp (disch := first | decide | omega | assumption) only [loop_unf, loopK_N, loopK_E, loopK_R, RAs, RBs, RCs, RDs, REs, RFs, RGs, RHs, RIs, RJs, RKs, RLs, RRt, Nat.reduceLT, Nat.reduceEqDiff, Nat.reduceAdd, Nat.reduceSub, RXa, RXb, RXc, methR, mks_o, lowL_all, take_len, eq_self, placeS, *]
           refine ih _ _ _ _ _ _ h (by omega) ?_ ?_ ?_
           all_goals simp (disch := first | decide | omega | assumption) only [RAs, RBs, RCs, RDs, REs, RFs, RGs, RHs, RIs, RJs, RKs, RLs, RRt, Nat.reduceLT, Nat.reduceEqDiff, Nat.reduceAdd, Nat.reduceSub, RXa, RXb, RXc, methR, mks_o, lowL_all, take_len, eq_self, *])
        | (simp only [Option.some.injEq, Prod.mk.injEq] at h
           obtain ⟨rfl, rfl⟩ := h
           simp (disch := first | decide | omega | assumption) only [W43x1, loop_unf, loopK_N, loopK_E, loopK_R, RAs, RBs, RCs, RDs, REs, RFs, RGs, RHs, RIs, RJs, RKs, RLs, RRt, Nat.reduceLT, Nat.reduceEqDiff, Nat.reduceAdd, Nat.reduceSub, RXa, RXb, RXc, methR, mks_o, lowL_all, take_len, eq_self, placeS, *])

/-- arena.Format: the loop 0 -/
def fmtA (kc : Nat) (pages bound : Int) : Nat → Int → Mo → Option (AV × Mo)
  | 0, i, O =>
    if i < bound then none
    else
      match wsetS [.agg [.ref 0 kc 0], .int .i64 0, .int .u64 pages] O with
      | some (.tup [], Oa) => match wsetS [.agg [.ref 0 kc 0], .int .i64 1, .int .u64 1] Oa with
        | some (.tup [], Ob) => match wsetS [.agg [.ref 0 kc 0], .int .i64 4, .int .u64 1] Ob with
          | some (.tup [], Oc) => fmtB kc pages pages.toNat 1 Oc
          | _ => none
        | _ => none
      | _ => none
  | n + 1, i, O =>
    if i < bound then
      if 0 ≤ i then
        match wsetS [.agg [.ref 0 kc 0], .int .i64 i, .int .u64 0] O with
        | some (.tup [], Oa) => fmtA kc pages bound n (i + 1) Oa
        | _ => none
      else none
    else
      match wsetS [.agg [.ref 0 kc 0], .int .i64 0, .int .u64 pages] O with
      | some (.tup [], Oa) => match wsetS [.agg [.ref 0 kc 0], .int .i64 1, .int .u64 1] Oa with
        | some (.tup [], Ob) => match wsetS [.agg [.ref 0 kc 0], .int .i64 4, .int .u64 1] Ob with
          | some (.tup [], Oc) => fmtB kc pages pages.toNat 1 Oc
          | _ => none
        | _ => none
      | _ => none
theorem fmtA_loop {S : Ms} (kc : Nat) (pages bound : Int) (h0 : pages ≤ 511) (h1 : 1 ≤ pages) (h2 : bound ≤ 70000) : ∀ (n : Nat) (i : Int) (O : Mo) (env : Env) (M : Nat) (r : AV) (O' : Mo) (h : fmtA kc pages bound n i O = some (r, O')) (hM : n < M) (e0 : env 1 = .int .i64 pages) (e1 : env 6 = .ref (S.length + 1) 0 0) (e2 : env 33 = .int .i64 bound) (e3 : env 34 = .int .i64 i),
    W43x0 cfgA (tabC [(16, lenS), (60, placeS), (61, memCopyS), (82, wsetS)]) 100000 (loopN (exec cfgA (tabC [(16, lenS), (60, placeS), (61, memCopyS), (82, wsetS)]) 100000 B43x0) [] M ⟨leOf 64 env, O, S ++ [[ABlk.arr [.ref 0 kc 0]]]⟩) = some (r, O', S) := by
  intro n
  induction n with
  | zero =>
    intro i O env M r O' h hM e0 e1 e2 e3
    obtain ⟨M, rfl⟩ : ∃ M', M = M' + 1 := ⟨M - 1, by omega⟩
    unfold fmtA at h
    repeat' (split at h)
    all_goals first | (cases h; done) | (dsimp only at h; cases h; done) | (exfalso; omega) | skip
    all_goals
      try dsimp only at h
      try simp only [acc, accZ, errA] at *
      first
        | (simp (disch := first | decide | omega | assumption) only [loop_unf, loopK_N, loopK_E, loopK_R, RAs, RBs, RCs, RDs, REs, RFs, RGs, RHs, RIs, RJs, RKs, RLs, RRt, Nat.reduceLT, Nat.reduceEqDiff, Nat.reduceAdd, Nat.reduceSub, RXa, RXb, RXc, methR, mks_o, lowL_all, take_len, eq_self, placeS, *]
           refine noIh _ _ _ _ _ _ h (by omega) ?_ ?_ ?_ ?_
           all_goals simp (disch := first | decide | omega | assumption) only [RAs, RBs, RCs, RDs, REs, RFs, RGs, RHs, RIs, RJs, RKs, RLs, RRt, Nat.reduceLT, Nat.reduceEqDiff, Nat.reduceAdd, Nat.reduceSub, RXa, RXb, RXc, methR, mks_o, lowL_all, take_len, eq_self, *])
        | (have hg_ : fmtB _ _ _ _ _ = _ := h
           clear hg_
           simp (disch := first | decide | omega | assumption) only [loop_unf, loopK_N, loopK_E, loopK_R, RAs, RBs, RCs, RDs, REs, RFs, RGs, RHs, RIs, RJs, RKs, RLs, RRt, Nat.reduceLT, Nat.reduceEqDiff, Nat.reduceAdd, Nat.reduceSub, RXa, RXb, RXc, methR, mks_o, lowL_all, take_len, eq_self, placeS, *]
           simp (disch := first | decide | omega | assumption) only [W43x0, e_loop, RAs, RBs, RCs, RDs, REs, RFs, RGs, RHs, RIs, RJs, RKs, RLs, RRt, Nat.reduceLT, Nat.reduceEqDiff, Nat.reduceAdd, Nat.reduceSub, RXa, RXb, RXc, methR, mks_o, lowL_all, take_len, eq_self, placeS, *]
           refine fmtB_loop _ _ (by omega) _ _ _ _ _ _ _ h (by omega) ?_ ?_ ?_
           all_goals simp (disch := first | decide | omega | assumption) only [RAs, RBs, RCs, RDs, REs, RFs, RGs, RHs, RIs, RJs, RKs, RLs, RRt, Nat.reduceLT, Nat.reduceEqDiff, Nat.reduceAdd, Nat.reduceSub, RXa, RXb, RXc, methR, mks_o, lowL_all, take_len, eq_self, *])
        | (simp only [Option.some.injEq, Prod.mk.injEq] at h
           obtain ⟨rfl, rfl⟩ := h
           simp (disch := first | decide | omega | assumption) only [W43x0, loop_unf, loopK_N, loopK_E, loopK_R, RAs, RBs, RCs, RDs, REs, RFs, RGs, RHs, RIs, RJs, RKs, RLs, RRt, Nat.reduceLT, Nat.reduceEqDiff, Nat.reduceAdd, Nat.reduceSub, RXa, RXb, RXc, methR, mks_o, lowL_all, take_len, eq_self, placeS, *])
  | succ n ih =>
    intro i O env M r O' h hM e0 e1 e2 e3
    obtain ⟨M, rfl⟩ : ∃ M', M = M' + 1 := ⟨M - 1, by omega⟩
    unfold fmtA at h
    repeat' (split at h)
    all_goals first | (cases h; done) | (dsimp only at h; cases h; done) | (exfalso; omega) | skip
    all_goals
      try dsimp only at h
      try simp only [acc, accZ, errA] at *
      first
        | (have hg_ : fmtA kc pages bound n _ _ = _ := h
           clear hg_
           simp (disch := first | decide | omega | assumption) only [loop_unf, loopK_N, loopK_E, loopK_R, RAs, RBs, RCs, RDs, REs, RFs, RGs, RHs, RIs, RJs, RKs, RLs, RRt, Nat.reduceLT, Nat.reduceEqDiff, Nat.reduceAdd, Nat.reduceSub, RXa, RXb, RXc, methR, mks_o, lowL_all, take_len, eq_self, placeS, *]
           refine ih _ _ _ _ _ _ h (by omega) ?_ ?_ ?_ ?_
           all_goals simp (disch := first | decide | omega | assumption) only [RAs, RBs, RCs, RDs, REs, RFs, RGs, RHs, RIs, RJs, RKs, RLs, RRt, Nat.reduceLT, Nat.reduceEqDiff, Nat.reduceAdd, Nat.reduceSub, RXa, RXb, RXc, methR, mks_o, lowL_all, take_len, eq_self, *])
        | (have hg_ : fmtB _ _ _ _ _ = _ := h
           clear hg_
           simp (disch := first | decide | omega | assumption) only [loop_unf, loopK_N, loopK_E, loopK_R, RAs, RBs, RCs, RDs, REs, RFs, RGs, RHs, RIs, RJs, RKs, RLs, RRt, Nat.reduceLT, Nat.reduceEqDiff, Nat.reduceAdd, Nat.reduceSub, RXa, RXb, RXc, methR, mks_o, lowL_all, take_len, eq_self, placeS, *]
           simp (disch := first | decide | omega | assumption) only [W43x0, e_loop, RAs, RBs, RCs, RDs, REs, RFs, RGs, RHs, RIs, RJs, RKs, RLs, RRt, Nat.reduceLT, Nat.reduceEqDiff, Nat.reduceAdd, Nat.reduceSub, RXa, RXb, RXc, methR, mks_o, lowL_all, take_len, eq_self, placeS, *]
           refine fmtB_loop _ _ (by omega) _ _ _ _ _ _ _ h (by omega) ?_ ?_ ?_
           all_goals simp (disch := first | decide | omega | assumption) only [RAs, RBs, RCs, RDs, REs, RFs, RGs, RHs, RIs, RJs, RKs, RLs, RRt, Nat.reduceLT, Nat.reduceEqDiff, Nat.reduceAdd, Nat.reduceSub, RXa, RXb, RXc, methR, mks_o, lowL_all, take_len, eq_self, *])
        | (simp only [Option.some.injEq, Prod.mk.injEq] at h
           obtain ⟨rfl, rfl⟩ := h
           simp (disch := first | decide | omega | assumption) only [W43x0, loop_unf, loopK_N, loopK_E, loopK_R, RAs, RBs, RCs, RDs, REs, RFs, RGs, RHs, RIs, RJs, RKs, RLs, RRt, Nat.reduceLT, Nat.reduceEqDiff, Nat.reduceAdd, Nat.reduceSub, RXa, RXb, RXc, methR, mks_o, lowL_all, take_len, eq_self, placeS, *])

/-- arena.Format -/
def aFormatS : Sp := fun args O =>
  match args with
  | [.ref 0 k 0, .int .i64 pages] =>
    match lenS [.ref 0 k 0] O with
    | some (.int .i64 n, Oa) =>
      if n = 0 then some (.tup [.nilp, .int .i64 1], Oa)
      else if pages < 1 then some (.tup [.nilp, .int .i64 2], Oa)
      else if 511 < pages then some (.tup [.nilp, .int .i64 2], Oa)
      else
        match lenS [.ref 0 k 0] Oa with
        | some (.int .i64 n2, Ob) =>
          if n2 < 16 + 128 * (pages + 1 - 1) + 0 then some (.tup [.nilp, .int .i64 2], Ob)
          else
            match memCopyS [.ref 0 k 0] Ob with
            | some (.ref 0 kc 0, Oc) => fmtA kc pages (16 + 128 * (pages + 1 - 1) + 0) (16 + 128 * pages).toNat 0 Oc
            | _ => none
        | _ => none
    | _ => none
  | _ => none
theorem aFormatS_ok : SpOk Tryz.prog 43 aFormatS := by
  intro args O r O' h S
  unfold aFormatS at h
  repeat' (split at h)
  all_goals first | (cases h; done) | skip
  all_goals
    try simp only [acc, accZ, errA] at *
    first
      | (simp only [Option.some.injEq, Prod.mk.injEq] at h
         obtain ⟨rfl, rfl⟩ := h
         refine bodyA (tabC_cons lenS_ok (tabC_cons placeS_ok (tabC_cons memCopyS_ok (tabC_cons wsetS_ok (tabC_nil _))))) (n := 100000) F43_code ?_
         simp (disch := first | decide | omega | assumption) only [F43, RAs, RBs, RCs, RDs, REs, RFs, RGs, RHs, RIs, RJs, RKs, RLs, RRt, Nat.reduceLT, Nat.reduceEqDiff, Nat.reduceAdd, Nat.reduceSub, RXa, RXb, RXc, methR, mks_o, lowL_all, take_len, eq_self, acc, accZ, errA, placeS, *])
      | (refine bodyA (tabC_cons lenS_ok (tabC_cons placeS_ok (tabC_cons memCopyS_ok (tabC_cons wsetS_ok (tabC_nil _))))) (n := 100000) F43_code ?_
         simp (disch := first | decide | omega | assumption) only [F43, RAs, RBs, RCs, RDs, REs, RFs, RGs, RHs, RIs, RJs, RKs, RLs, RRt, Nat.reduceLT, Nat.reduceEqDiff, Nat.reduceAdd, Nat.reduceSub, RXa, RXb, RXc, methR, mks_o, lowL_all, take_len, eq_self, e_loop, acc, accZ, errA, placeS, *]
         refine (fin_skip _ _ _ _ _).trans ?_
         refine fmtA_loop _ _ _ (by omega) (by omega) (by omega) _ _ _ _ _ _ _ h (by omega) ?_ ?_ ?_ ?_
         all_goals simp (disch := first | decide | omega | assumption) only [RAs, RBs, RCs, RDs, REs, RFs, RGs, RHs, RIs, RJs, RKs, RLs, RRt, Nat.reduceLT, Nat.reduceEqDiff, Nat.reduceAdd, Nat.reduceSub, RXa, RXb, RXc, methR, mks_o, lowL_all, take_len, eq_self, *])

end Den

/- Contracts of an arena with an empty tree. -/
set_option maxRecDepth 1000000
set_option maxHeartbeats 4000000
set_option linter.unusedSimpArgs false
set_option linter.unusedVariables false
namespace Den
open Go Go.Proofs

/-- An empty page of the lowest level. -/
def W0 : List Int := [0, 0, 0, 0, 0, 0, 0, 0, 1, 0, 0, 128] ++ List.replicate 116 0
def chkW : List Int → List AV → Bool
  | [], [] => true
  | x :: xs, .int .u64 y :: ys => decide (x = y) && chkW xs ys
  | _, _ => false
theorem chkW_eq : ∀ {xs : List Int} {cs : List AV}, chkW xs cs = true → cs = xs.map (AV.int .u64)
  | [], [], _ => rfl
  | x :: xs, .int .u64 y :: ys, h => by
    simp only [chkW, Bool.and_eq_true, decide_eq_true_eq] at h
    rw [h.1, chkW_eq h.2]; rfl
def P0 : List AV := W0.map (AV.int .u64)
noncomputable def isP : KV := fun v _ _ => match v with
  | .tup [.agg cs, .int .i64 e] => chkW W0 cs && decide (e = 0)
  | _ => false
theorem isP_ok {v : AV} {O : Mo} {S : Ms} (h : isP v O S = true) : v = .tup [.agg P0, .int .i64 0] := by
  unfold isP at h
  split at h
  · simp only [Bool.and_eq_true, decide_eq_true_eq] at h
    rw [h.2, chkW_eq h.1]; rfl
  · cases h
theorem make_run : fden cfgL noFp 1000000 25 [.int .i64 0, .str [], .str []] [] [] isP = true := by kernel_rfl
theorem valid_run : fden cfgL noFp 1000000 70 [.agg P0] [] [] isT = true := by kernel_rfl
theorem P0_free : P0.all free1 = true := by decide +kernel
def slotMakeS : Sp := fun args O =>
  match args with
  | [.int .i64 n, .str s, .str t] => if n = 0 ∧ s = [] ∧ t = [] then some (.tup [.agg P0, .int .i64 0], O) else none
  | _ => none
theorem slotMakeS_ok : SpOk Tryz.prog 25 slotMakeS := by
  intro args O r O' hh S
  unfold slotMakeS at hh
  split at hh
  · split at hh
    · rename_i h1
      obtain ⟨rfl, rfl, rfl⟩ := h1
      cases hh
      obtain ⟨r, O', S', h, hk⟩ := fden_ok cfgL_ok noFp_ok make_run
      obtain rfl := isP_ok hk
      exact h.anywhere rfl (by simp only [Den.free, List.all_cons, List.all_nil, P0_free, free1, Bool.and_true]) O S
    · cases hh
  · cases hh
def slotValidS : Sp := fun args O =>
  match args with
  | [.agg cs] => if chkW W0 cs = true then some (.bool true, O) else none
  | _ => none
theorem slotValidS_ok : SpOk Tryz.prog 70 slotValidS := by
  intro args O r O' hh S
  unfold slotValidS at hh
  split at hh
  · split at hh
    · rename_i cs h1
      obtain rfl := chkW_eq h1
      cases hh
      obtain ⟨r, O', S', h, hk⟩ := fden_ok cfgL_ok noFp_ok valid_run
      obtain rfl := isT_ok hk
      exact h.anywhere (by simp only [Den.free, List.all_cons, List.all_nil, Bool.and_true]; exact P0_free) rfl O S
    · cases hh
  · cases hh

/-- arena.Arena.none -/
def anoneS : Sp := fun args O =>
  match args with
  | [.ref 0 ka 0] => match O[ka]? with
    | some (.arr [.ref 0 kc 0]) => some (.bool false, O)
    | _ => none
  | _ => none
theorem anoneS_ok : SpOk Tryz.prog 63 anoneS := by
  intro args O r O' h S
  unfold anoneS at h
  repeat' (split at h)
  all_goals first | (cases h; done) | skip
  all_goals
    simp only [Option.some.injEq, Prod.mk.injEq] at h
    obtain ⟨rfl, rfl⟩ := h
    refine bodyA (tabC_nil _) (n := 0) F63_code ?_
    try simp only [acc, accZ, errA] at *
    simp (disch := first | decide | omega | assumption) only [F63, RAs, RBs, RCs, RDs, REs, RFs, RGs, RHs, RIs, RJs, RKs, RLs, RRt, Nat.reduceLT, Nat.reduceEqDiff, Nat.reduceAdd, Nat.reduceSub, RXa, RXb, RXc, methR, lowL_all, eq_self, take_len, List.drop_replicate, Nat.sub_self, List.replicate_zero, List.append_nil, acc, accZ, errA, *]

/-- arena.Arena.pages -/
def apagesS : Sp := fun args O =>
  match args with
  | [.ref 0 ka 0] => match O[ka]? with
    | some (.arr [.ref 0 kc 0]) => match wgetS [.agg [.ref 0 kc 0], .int .i64 0] O with
      | some (.int .u64 v, Oa) => if 0 ≤ v ∧ v ≤ 1000 then some (.int .i64 v, Oa) else none
      | _ => none
    | _ => none
  | _ => none
theorem apagesS_ok : SpOk Tryz.prog 65 apagesS := by
  intro args O r O' h S
  unfold apagesS at h
  repeat' (split at h)
  all_goals first | (cases h; done) | skip
  all_goals
    simp only [Option.some.injEq, Prod.mk.injEq] at h
    obtain ⟨rfl, rfl⟩ := h
    refine bodyA (tabC_cons wgetS_ok (tabC_nil _)) (n := 0) F65_code ?_
    try simp only [acc, accZ, errA] at *
    simp (disch := first | decide | omega | assumption) only [F65, RAs, RBs, RCs, RDs, REs, RFs, RGs, RHs, RIs, RJs, RKs, RLs, RRt, Nat.reduceLT, Nat.reduceEqDiff, Nat.reduceAdd, Nat.reduceSub, RXa, RXb, RXc, methR, lowL_all, eq_self, take_len, List.drop_replicate, Nat.sub_self, List.replicate_zero, List.append_nil, acc, accZ, errA, *]

/-- arena.Arena.kind -/
def akindS : Sp := fun args O =>
  match args with
  | [.ref 0 ka 0, .int .i64 p] => match O[ka]? with
    | some (.arr [.ref 0 kc 0]) =>
      if 0 ≤ p ∧ p ≤ 1000 then
        match wgetS [.agg [.ref 0 kc 0], .int .i64 (16 + 128 * (p - 1) + 8)] O with
        | some (.int .u64 v, Oa) => some (.int .u64 v, Oa)
        | _ => none
      else none
    | _ => none
  | _ => none
theorem akindS_ok : SpOk Tryz.prog 66 akindS := by
  intro args O r O' h S
  unfold akindS at h
  repeat' (split at h)
  all_goals first | (cases h; done) | skip
  all_goals
    simp only [Option.some.injEq, Prod.mk.injEq] at h
    obtain ⟨rfl, rfl⟩ := h
    refine bodyA (tabC_cons wgetS_ok (tabC_cons placeS_ok (tabC_nil _))) (n := 0) F66_code ?_
    try simp only [acc, accZ, errA] at *
    simp (disch := first | decide | omega | assumption) only [F66, RAs, RBs, RCs, RDs, REs, RFs, RGs, RHs, RIs, RJs, RKs, RLs, RRt, Nat.reduceLT, Nat.reduceEqDiff, Nat.reduceAdd, Nat.reduceSub, RXa, RXb, RXc, methR, lowL_all, eq_self, take_len, List.drop_replicate, Nat.sub_self, List.replicate_zero, List.append_nil, acc, accZ, errA, placeS, *]

/-- arena.Arena.used -/
def ausedS : Sp := fun args O =>
  match args with
  | [.ref 0 ka 0, .int .i64 p] => match akindS [.ref 0 ka 0, .int .i64 p] O with
    | some (.int .u64 v, Oa) => if 1 ≤ v then if v ≤ 6 then some (.bool true, Oa) else some (.bool false, Oa) else some (.bool false, Oa)
    | _ => none
  | _ => none
theorem ausedS_ok : SpOk Tryz.prog 67 ausedS := by
  intro args O r O' h S
  unfold ausedS at h
  repeat' (split at h)
  all_goals first | (cases h; done) | skip
  all_goals
    simp only [Option.some.injEq, Prod.mk.injEq] at h
    obtain ⟨rfl, rfl⟩ := h
    refine bodyA (tabC_cons akindS_ok (tabC_nil _)) (n := 0) F67_code ?_
    try simp only [acc, accZ, errA] at *
    simp (disch := first | decide | omega | assumption) only [F67, RAs, RBs, RCs, RDs, REs, RFs, RGs, RHs, RIs, RJs, RKs, RLs, RRt, Nat.reduceLT, Nat.reduceEqDiff, Nat.reduceAdd, Nat.reduceSub, RXa, RXb, RXc, methR, lowL_all, eq_self, take_len, List.drop_replicate, Nat.sub_self, List.replicate_zero, List.append_nil, acc, accZ, errA, *]

/-- arena.Arena.there -/
def athereS : Sp := fun args O =>
  match args with
  | [.ref 0 ka 0, .int .i64 p] => match anoneS [.ref 0 ka 0] O with
    | some (.bool false, Oa) =>
      if p < 1 then none
      else
        match apagesS [.ref 0 ka 0] Oa with
        | some (.int .i64 v, Ob) => if v < p then none else some (.int .i64 0, Ob)
        | _ => none
    | _ => none
  | _ => none
theorem athereS_ok : SpOk Tryz.prog 68 athereS := by
  intro args O r O' h S
  unfold athereS at h
  repeat' (split at h)
  all_goals first | (cases h; done) | skip
  all_goals
    simp only [Option.some.injEq, Prod.mk.injEq] at h
    obtain ⟨rfl, rfl⟩ := h
    refine bodyA (tabC_cons anoneS_ok (tabC_cons apagesS_ok (tabC_nil _))) (n := 0) F68_code ?_
    try simp only [acc, accZ, errA] at *
    simp (disch := first | decide | omega | assumption) only [F68, RAs, RBs, RCs, RDs, REs, RFs, RGs, RHs, RIs, RJs, RKs, RLs, RRt, Nat.reduceLT, Nat.reduceEqDiff, Nat.reduceAdd, Nat.reduceSub, RXa, RXb, RXc, methR, lowL_all, eq_self, take_len, List.drop_replicate, Nat.sub_self, List.replicate_zero, List.append_nil, acc, accZ, errA, *]

/-- arena.Arena.busy -/
def abusyS : Sp := fun args O =>
  match args with
  | [.ref 0 ka 0, .int .i64 p, .bool false] => match athereS [.ref 0 ka 0, .int .i64 p] O with
    | some (.int .i64 e, Oa) =>
      if e = 0 then
        match ausedS [.ref 0 ka 0, .int .i64 p] Oa with
        | some (.bool true, Ob) => some (.int .i64 0, Ob)
        | _ => none
      else none
    | _ => none
  | _ => none
theorem abusyS_ok : SpOk Tryz.prog 88 abusyS := by
  intro args O r O' h S
  unfold abusyS at h
  repeat' (split at h)
  all_goals first | (cases h; done) | skip
  all_goals
    simp only [Option.some.injEq, Prod.mk.injEq] at h
    obtain ⟨rfl, rfl⟩ := h
    refine bodyA (tabC_cons athereS_ok (tabC_cons ausedS_ok (tabC_nil _))) (n := 0) F88_code ?_
    try simp only [acc, accZ, errA] at *
    simp (disch := first | decide | omega | assumption) only [F88, RAs, RBs, RCs, RDs, REs, RFs, RGs, RHs, RIs, RJs, RKs, RLs, RRt, Nat.reduceLT, Nat.reduceEqDiff, Nat.reduceAdd, Nat.reduceSub, RXa, RXb, RXc, methR, lowL_all, eq_self, take_len, List.drop_replicate, Nat.sub_self, List.replicate_zero, List.append_nil, acc, accZ, errA, *]

/-- arena.Arena.SetRoot -/
def asetRootS : Sp := fun args O =>
  match args with
  | [.ref 0 ka 0, .int .i64 p] => match anoneS [.ref 0 ka 0] O with
    | some (.bool false, Oa) =>
      if 1 ≤ p ∧ p ≤ 1000 then
        match abusyS [.ref 0 ka 0, .int .i64 p, .bool false] Oa with
        | some (.int .i64 e, Ob) =>
          if e = 0 then
            match Ob[ka]? with
            | some (.arr [.ref 0 kc 0]) => match wsetS [.agg [.ref 0 kc 0], .int .i64 3, .int .u64 p] Ob with
              | some (.tup [], Oc) => some (.int .i64 0, Oc)
              | _ => none
            | _ => none
          else none
        | _ => none
      else none
    | _ => none
  | _ => none
theorem asetRootS_ok : SpOk Tryz.prog 44 asetRootS := by
  intro args O r O' h S
  unfold asetRootS at h
  repeat' (split at h)
  all_goals first | (cases h; done) | skip
  all_goals
    simp only [Option.some.injEq, Prod.mk.injEq] at h
    obtain ⟨rfl, rfl⟩ := h
    refine bodyA (tabC_cons anoneS_ok (tabC_cons abusyS_ok (tabC_cons wsetS_ok (tabC_nil _)))) (n := 0) F44_code ?_
    try simp only [acc, accZ, errA] at *
    simp (disch := first | decide | omega | assumption) only [F44, RAs, RBs, RCs, RDs, REs, RFs, RGs, RHs, RIs, RJs, RKs, RLs, RRt, Nat.reduceLT, Nat.reduceEqDiff, Nat.reduceAdd, Nat.reduceSub, RXa, RXb, RXc, methR, lowL_all, eq_self, take_len, List.drop_replicate, Nat.sub_self, List.replicate_zero, List.append_nil, acc, accZ, errA, *]

/-- arena.Arena.Mem -/
def amemS : Sp := fun args O =>
  match args with
  | [.ref 0 ka 0] => match anoneS [.ref 0 ka 0] O with
    | some (.bool false, Oa) =>
      match Oa[ka]? with
      | some (.arr [.ref 0 kc 0]) => match memCopyS [.ref 0 kc 0] Oa with
        | some (.ref 0 k 0, Ob) => some (.ref 0 k 0, Ob)
        | _ => none
      | _ => none
    | _ => none
  | _ => none
theorem amemS_ok : SpOk Tryz.prog 35 amemS := by
  intro args O r O' h S
  unfold amemS at h
  repeat' (split at h)
  all_goals first | (cases h; done) | skip
  all_goals
    simp only [Option.some.injEq, Prod.mk.injEq] at h
    obtain ⟨rfl, rfl⟩ := h
    refine bodyA (tabC_cons anoneS_ok (tabC_cons memCopyS_ok (tabC_nil _))) (n := 0) F35_code ?_
    try simp only [acc, accZ, errA] at *
    simp (disch := first | decide | omega | assumption) only [F35, RAs, RBs, RCs, RDs, REs, RFs, RGs, RHs, RIs, RJs, RKs, RLs, RRt, Nat.reduceLT, Nat.reduceEqDiff, Nat.reduceAdd, Nat.reduceSub, RXa, RXb, RXc, methR, lowL_all, eq_self, take_len, List.drop_replicate, Nat.sub_self, List.replicate_zero, List.append_nil, acc, accZ, errA, *]

/-- descend.Words -/
def dWordsS : Sp := fun args O =>
  match args with
  | [.agg [.int .i64 p, .int .i64 t]] => match dvalidS [.agg [.int .i64 p, .int .i64 t]] O with
    | some (.bool false, Oa) => some (.tup [.int .i64 0, .int .i64 2], Oa)
    | some (.bool true, Oa) => if 1 ≤ p ∧ p ≤ 511 ∧ 1 ≤ t ∧ t ≤ 17 then some (.tup [.int .i64 (16 + 128 * p + t * 2 * 3), .int .i64 0], Oa) else none
    | _ => none
  | _ => none
theorem dWordsS_ok : SpOk Tryz.prog 41 dWordsS := by
  intro args O r O' h S
  unfold dWordsS at h
  repeat' (split at h)
  all_goals first | (cases h; done) | skip
  all_goals
    simp only [Option.some.injEq, Prod.mk.injEq] at h
    obtain ⟨rfl, rfl⟩ := h
    refine bodyA (tabC_cons dvalidS_ok (tabC_cons dnodesS_ok (tabC_nil _))) (n := 0) F41_code ?_
    try simp only [acc, accZ, errA] at *
    simp (disch := first | decide | omega | assumption) only [F41, RAs, RBs, RCs, RDs, REs, RFs, RGs, RHs, RIs, RJs, RKs, RLs, RRt, Nat.reduceLT, Nat.reduceEqDiff, Nat.reduceAdd, Nat.reduceSub, RXa, RXb, RXc, methR, lowL_all, eq_self, take_len, List.drop_replicate, Nat.sub_self, List.replicate_zero, List.append_nil, acc, accZ, errA, dnodesS, *]

/-- arena.Arena.put: the loop 0 -/
def putG (ka : Nat) (p : Int) (cs : List AV) : Nat → Int → Mo → Option (AV × Mo)
  | 0, i, O => if i < 128 then none else some (.tup [], O)
  | n + 1, i, O =>
    if i < 128 then
      if 0 ≤ i then
        match O[ka]? with
        | some (.arr [.ref 0 kc 0]) =>
          match cs[i.toNat]? with
          | some (.int .u64 v) =>
            match wsetS [.agg [.ref 0 kc 0], .int .i64 (16 + 128 * (p - 1) + i), .int .u64 v] O with
            | some (.tup [], Oa) => putG ka p cs n (i + 1) Oa
            | _ => none
          | _ => none
        | _ => none
      else none
    else some (.tup [], O)
theorem putG_loop {S : Ms} (ka : Nat) (p : Int) (cs : List AV) (h0 : cs.length = 128) (h1 : 1 ≤ p) (h2 : p ≤ 511) : ∀ (n : Nat) (i : Int) (O : Mo) (env : Env) (M : Nat) (r : AV) (O' : Mo) (h : putG ka p cs n i O = some (r, O')) (hM : n < M) (e0 : env 0 = .ref 0 ka 0) (e1 : env 1 = .int .i64 p) (e2 : env 5 = .ref (S.length + 1) 0 0) (e3 : env 6 = .int .i64 i),
    W83x0 cfgA (tabC [(60, placeS), (82, wsetS)]) 100000 (loopN (exec cfgA (tabC [(60, placeS), (82, wsetS)]) 100000 B83x0) [] M ⟨leOf 22 env, O, S ++ [[ABlk.arr cs]]⟩) = some (r, O', S) := by
  intro n
  induction n with
  | zero =>
    intro i O env M r O' h hM e0 e1 e2 e3
    obtain ⟨M, rfl⟩ : ∃ M', M = M' + 1 := ⟨M - 1, by omega⟩
    unfold putG at h
    repeat' (split at h)
    all_goals first | (cases h; done) | (dsimp only at h; cases h; done) | (exfalso; omega) | skip
    all_goals
      try dsimp only at h
      try simp only [acc, accZ, errA] at *
      first
        | (simp (disch := first | decide | omega | assumption) only [loop_unf, loopK_N, loopK_E, loopK_R, RAs, RBs, RCs, RDs, REs, RFs, RGs, RHs, RIs, RJs, RKs, RLs, RRt, Nat.reduceLT, Nat.reduceEqDiff, Nat.reduceAdd, Nat.reduceSub, RXa, RXb, RXc, methR, lowL_all, eq_self, take_len, List.drop_replicate, Nat.sub_self, List.replicate_zero, List.append_nil, placeS, *]
           refine noIh _ _ _ _ _ _ h (by omega) ?_ ?_ ?_ ?_
           all_goals simp (disch := first | decide | omega | assumption) only [RAs, RBs, RCs, RDs, REs, RFs, RGs, RHs, RIs, RJs, RKs, RLs, RRt, Nat.reduceLT, Nat.reduceEqDiff, Nat.reduceAdd, Nat.reduceSub, RXa, RXb, RXc, methR, lowL_all, eq_self, take_len, List.drop_replicate, Nat.sub_self, List.replicate_zero, List.append_nil, *])
        | (simp only [Option.some.injEq, Prod.mk.injEq] at h
           obtain ⟨rfl, rfl⟩ := h
           simp (disch := first | decide | omega | assumption) only [W83x0, loop_unf, loopK_N, loopK_E, loopK_R, RAs, RBs, RCs, RDs, REs, RFs, RGs, RHs, RIs, RJs, RKs, RLs, RRt, Nat.reduceLT, Nat.reduceEqDiff, Nat.reduceAdd, Nat.reduceSub, RXa, RXb, RXc, methR, lowL_all, eq_self, take_len, List.drop_replicate, Nat.sub_self, List.replicate_zero, List.append_nil, placeS, *])
  | succ n ih =>
    intro i O env M r O' h hM e0 e1 e2 e3
    obtain ⟨M, rfl⟩ : ∃ M', M = M' + 1 := ⟨M - 1, by omega⟩
    unfold putG at h
    repeat' (split at h)
    all_goals first | (cases h; done) | (dsimp only at h; cases h; done) | (exfalso; omega) | skip
    all_goals
      try dsimp only at h
      try simp only [acc, accZ, errA] at *
      first
        | (have hg_ : putG ka p cs n _ _ = _ := h
           clear hg_
           simp (disch := first | decide | omega | assumption) only [loop_unf, loopK_N, loopK_E, loopK_R, RAs, RBs, RCs, RDs, REs, RFs, RGs, RHs, RIs, RJs, RKs, RLs, RRt, Nat.reduceLT, Nat.reduceEqDiff, Nat.reduceAdd, Nat.reduceSub, RXa, RXb, RXc, methR, lowL_all, eq_self, take_len, List.drop_replicate, Nat.sub_self, List.replicate_zero, List.append_nil, placeS, *]
           refine ih _ _ _ _ _ _ h (by omega) ?_ ?_ ?_ ?_
           all_goals simp (disch := first | decide | omega | assumption) only [RAs, RBs, RCs, RDs, REs, RFs, RGs, RHs, RIs, RJs, RKs, RLs, RRt, Nat.reduceLT, Nat.reduceEqDiff, Nat.reduceAdd, Nat.reduceSub, RXa, RXb, RXc, methR, lowL_all, eq_self, take_len, List.drop_replicate, Nat.sub_self, List.replicate_zero, List.append_nil, *])
        | (simp only [Option.some.injEq, Prod.mk.injEq] at h
           obtain ⟨rfl, rfl⟩ := h
           simp (disch := first | decide | omega | assumption) only [W83x0, loop_unf, loopK_N, loopK_E, loopK_R, RAs, RBs, RCs, RDs, REs, RFs, RGs, RHs, RIs, RJs, RKs, RLs, RRt, Nat.reduceLT, Nat.reduceEqDiff, Nat.reduceAdd, Nat.reduceSub, RXa, RXb, RXc, methR, lowL_all, eq_self, take_len, List.drop_replicate, Nat.sub_self, List.replicate_zero, List.append_nil, placeS, *])

/-- arena.Arena.put -/
def aputS : Sp := fun args O =>
  match args with
  | [.ref 0 ka 0, .int .i64 p, .agg cs] =>
    if cs.length = 128 then if cs.all isW = true then if 1 ≤ p ∧ p ≤ 511 then putG ka p cs (p.toNat - p.toNat + 120) 8 O else none else none else none
  | _ => none
theorem aputS_ok : SpOk Tryz.prog 83 aputS := by
  intro args O r O' h S
  unfold aputS at h
  repeat' (split at h)
  all_goals first | (cases h; done) | skip
  all_goals
    try simp only [acc, accZ, errA] at *
    first
      | (simp only [Option.some.injEq, Prod.mk.injEq] at h
         obtain ⟨rfl, rfl⟩ := h
         refine bodyA (tabC_cons placeS_ok (tabC_cons wsetS_ok (tabC_nil _))) (n := 100000) F83_code ?_
         simp (disch := first | decide | omega | assumption) only [F83, RAs, RBs, RCs, RDs, REs, RFs, RGs, RHs, RIs, RJs, RKs, RLs, RRt, Nat.reduceLT, Nat.reduceEqDiff, Nat.reduceAdd, Nat.reduceSub, RXa, RXb, RXc, methR, lowL_all, eq_self, take_len, List.drop_replicate, Nat.sub_self, List.replicate_zero, List.append_nil, acc, accZ, errA, placeS, *])
      | (refine bodyA (tabC_cons placeS_ok (tabC_cons wsetS_ok (tabC_nil _))) (n := 100000) F83_code ?_
         simp (disch := first | decide | omega | assumption) only [F83, RAs, RBs, RCs, RDs, REs, RFs, RGs, RHs, RIs, RJs, RKs, RLs, RRt, Nat.reduceLT, Nat.reduceEqDiff, Nat.reduceAdd, Nat.reduceSub, RXa, RXb, RXc, methR, lowL_all, eq_self, take_len, List.drop_replicate, Nat.sub_self, List.replicate_zero, List.append_nil, e_loop, acc, accZ, errA, placeS, *]
         refine (fin_skip _ _ _ _ _).trans ?_
         refine putG_loop _ _ _ (by omega) (by omega) (by omega) _ _ _ _ _ _ _ h (by omega) ?_ ?_ ?_ ?_
         all_goals simp (disch := first | decide | omega | assumption) only [RAs, RBs, RCs, RDs, REs, RFs, RGs, RHs, RIs, RJs, RKs, RLs, RRt, Nat.reduceLT, Nat.reduceEqDiff, Nat.reduceAdd, Nat.reduceSub, RXa, RXb, RXc, methR, lowL_all, eq_self, take_len, List.drop_replicate, Nat.sub_self, List.replicate_zero, List.append_nil, *])

/-- arena.Arena.Alloc -/
def aallocS : Sp := fun args O =>
  match args with
  | [.ref 0 ka 0, .agg cs] =>
    if cs.length = 128 then if cs.all isW = true then
      match anoneS [.ref 0 ka 0] O with
      | some (.bool false, Oa) =>
        match slotValidS [.agg cs] Oa with
        | some (.bool true, Ob) =>
          match Ob[ka]? with
          | some (.arr [.ref 0 kc 0]) =>
            match wgetS [.agg [.ref 0 kc 0], .int .i64 1] Ob with
            | some (.int .u64 v, Oc) =>
              if 1 ≤ v ∧ v ≤ 511 then
                match Oc[ka]? with
                | some (.arr [.ref 0 kd 0]) =>
                  match wgetS [.agg [.ref 0 kd 0], .int .i64 (16 + 128 * (v - 1) + 10)] Oc with
                  | some (.int .u64 nx, Od) =>
                    match Od[ka]? with
                    | some (.arr [.ref 0 ke 0]) =>
                      if ke = kd then
                        match wsetS [.agg [.ref 0 kd 0], .int .i64 1, .int .u64 nx] Od with
                        | some (.tup [], Oe) =>
                          match aputS [.ref 0 ka 0, .int .i64 v, .agg cs] Oe with
                          | some (.tup [], Of) => some (.tup [.int .i64 v, .int .i64 0], Of)
                          | _ => none
                        | _ => none
                      else none
                    | _ => none
                  | _ => none
                | _ => none
              else none
            | _ => none
          | _ => none
        | _ => none
      | _ => none
    else none else none
  | _ => none
theorem aallocS_ok : SpOk Tryz.prog 27 aallocS := by
  intro args O r O' h S
  unfold aallocS at h
  repeat' (split at h)
  all_goals first | (cases h; done) | skip
  all_goals
    simp only [Option.some.injEq, Prod.mk.injEq] at h
    obtain ⟨rfl, rfl⟩ := h
    refine bodyA (tabC_cons anoneS_ok (tabC_cons slotValidS_ok (tabC_cons wgetS_ok (tabC_cons wsetS_ok (tabC_cons placeS_ok (tabC_cons aputS_ok (tabC_nil _))))))) (n := 0) F27_code ?_
    try simp only [acc, accZ, errA] at *
    simp (disch := first | decide | omega | assumption) only [F27, RAs, RBs, RCs, RDs, REs, RFs, RGs, RHs, RIs, RJs, RKs, RLs, RRt, Nat.reduceLT, Nat.reduceEqDiff, Nat.reduceAdd, Nat.reduceSub, RXa, RXb, RXc, methR, lowL_all, eq_self, take_len, List.drop_replicate, Nat.sub_self, List.replicate_zero, List.append_nil, acc, accZ, errA, placeS, *]

/-- descend.Format -/
def formatS : Sp := fun args O =>
  match args with
  | [.agg [.int .i64 p, .int .i64 t]] =>
    match dWordsS [.agg [.int .i64 p, .int .i64 t]] O with
    | some (.tup [.int .i64 n, .int .i64 e], Oa) =>
      if e = 0 then
        match newMemS [.int .i64 n] Oa with
        | some (.tup [.nilp, .int .i64 e], Ob) => if e = 0 then none else some (.tup [.nilp, .int .i64 e], Ob)
        | some (.tup [.ref 0 km 0, .int .i64 e], Ob) =>
          if e = 0 then
            match aFormatS [.ref 0 km 0, .int .i64 p] Ob with
            | some (.tup [.ref 0 ka 0, .int .i64 e], Oc) =>
              if e = 0 then
                match slotMakeS [.int .i64 0, .str [], .str []] Oc with
                | some (.tup [.agg cs, .int .i64 e], Od) =>
                  if e = 0 then
                    if cs.length = 128 then if cs.all isW = true then
                      match aallocS [.ref 0 ka 0, .agg cs] Od with
                      | some (.tup [.int .i64 v, .int .i64 e], Oe) =>
                        if e = 0 then
                          match asetRootS [.ref 0 ka 0, .int .i64 v] Oe with
                          | some (.int .i64 e, Of) =>
                            if e = 0 then
                              match amemS [.ref 0 ka 0] Of with
                              | some (.ref 0 k 0, Og) => some (.tup [.ref 0 k 0, .int .i64 0], Og)
                              | _ => none
                            else none
                          | _ => none
                        else none
                      | _ => none
                    else none else none
                  else none
                | _ => none
              else none
            | _ => none
          else none
        | _ => none
      else some (.tup [.nilp, .int .i64 e], Oa)
    | _ => none
  | _ => none
theorem formatS_ok : SpOk Tryz.prog 7 formatS := by
  intro args O r O' h S
  unfold formatS at h
  repeat' (split at h)
  all_goals first | (cases h; done) | skip
  all_goals
    simp only [Option.some.injEq, Prod.mk.injEq] at h
    obtain ⟨rfl, rfl⟩ := h
    refine bodyA (tabC_cons dWordsS_ok (tabC_cons newMemS_ok (tabC_cons aFormatS_ok (tabC_cons slotMakeS_ok (tabC_cons aallocS_ok (tabC_cons asetRootS_ok (tabC_cons amemS_ok (tabC_nil _)))))))) (n := 0) F7_code ?_
    try simp only [acc, accZ, errA] at *
    simp (disch := first | decide | omega | assumption) only [F7, RAs, RBs, RCs, RDs, REs, RFs, RGs, RHs, RIs, RJs, RKs, RLs, RRt, Nat.reduceLT, Nat.reduceEqDiff, Nat.reduceAdd, Nat.reduceSub, RXa, RXb, RXc, methR, lowL_all, eq_self, take_len, List.drop_replicate, Nat.sub_self, List.replicate_zero, List.append_nil, acc, accZ, errA, *]

end Den
