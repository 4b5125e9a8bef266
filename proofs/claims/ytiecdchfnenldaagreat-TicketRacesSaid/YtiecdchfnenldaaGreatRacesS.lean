/- TicketRaces: what it computes. -/
import Derived.Test.YtiecdchfnenldaaGreatKnownS
import Derived.Test.YtiecdchfnenldaaGreatSpecs
import Derived.Test.YtiecdchfnenldaaGreatDenGR
import Derived.Test.YtiecdchfnenldaaGreatDrawsS
import Derived.Test.YtiecdchfnenldaaGreatDenArgs
set_option maxRecDepth 100000
set_option maxHeartbeats 4000000
set_option linter.unusedSimpArgs false
set_option linter.unusedVariables false
namespace Den
open Go Go.Proofs

/-- ticketlinelaw32.TicketRaces$1 -/
def oneU (w : Bool) (i v : Int) (k1 k5 k6 k7 : Nat) (O : Mo) : Option (AV × Mo) :=
  (match O[k5]? with
  | some (.arr [.map 0 kg]) => (
  (match mapB O kg with
  | some (l) => (
  (if hasB v l = false then (
  (if 1 ≤ v then (
  (match O[k6]? with
  | some (.arr [.int .u8 T]) => (
  (match O[k7]? with
  | some (.arr [.int .u8 mo]) => (
  (if 0 ≤ T ∧ T ≤ 255 ∧ 0 ≤ mo ∧ mo ≤ 255 then (
  (if 0 ≤ T * mo ∧ T * mo ≤ 100000 then (
  (if v ≤ T * mo then (
  (match (O.set kg (.map (encB (putB v l))))[k1]? with
  | some (.arr [.bref 0 ka 0 n t]) => (
  (match (O.set kg (.map (encB (putB v l))))[ka]? with
  | some (.buf 1 cs) => (
  (if n = cs.length then (
  (if t = cs.length then (
  (if 0 ≤ i then (
  (if i < (cs.length : Int) then (
  some (.tup [.bool w, .bool true, .bool false], (O.set kg (.map (encB (putB v l)))).set ka (.buf 1 (cs.set i.toNat .nilp))))
  else none))
  else none))
  else none))
  else none))
  | _ => none))
  | _ => none))
  else none))
  else none))
  else none))
  | _ => none))
  | _ => none))
  else none))
  else none))
  | _ => none))
  | _ => none)
def oneW (w : Bool) (i : Int) (k1 k5 k6 k7 : Nat) (O : Mo) : Option (AV × Mo) :=
  (match O[k1]? with
  | some (.arr [.bref 0 ka3 0 n3 t3]) => (
  (match O[ka3]? with
  | some (.buf 1 cs3) => (
  (if n3 = cs3.length then (
  (if t3 = cs3.length then (
  (if 0 ≤ i then (
  (if i < (cs3.length : Int) then (
  (match cs3[i.toNat]? with
  | some (.ref 0 kd3 0) => (
  (match drawResS [.ref 0 kd3 0] O with
  | some (.int .u64 v, O1) => (
  oneU w i v k1 k5 k6 k7 O1)
  | _ => none))
  | _ => none))
  else none))
  else none))
  else none))
  else none))
  | _ => none))
  | _ => none)
def oneV (w : Bool) (i : Int) (k1 k5 k6 k7 : Nat) (O : Mo) : Option (AV × Mo) :=
  (match O[k1]? with
  | some (.arr [.bref 0 ka2 0 n2 t2]) => (
  (match O[ka2]? with
  | some (.buf 1 cs2) => (
  (if n2 = cs2.length then (
  (if t2 = cs2.length then (
  (if 0 ≤ i then (
  (if i < (cs2.length : Int) then (
  (match cs2[i.toNat]? with
  | some (.ref 0 kd2 0) => (
  (match drawDoneS [.ref 0 kd2 0] O with
  | some (.bool false, Od) => some (.tup [.bool w, .bool true, .bool false], Od)
  | some (.bool true, Od) => oneW w i k1 k5 k6 k7 Od
  | _ => none))
  | _ => none))
  else none))
  else none))
  else none))
  else none))
  | _ => none))
  | _ => none)
def oneT (i : Int) (kd k1 k4 k5 k6 k7 : Nat) (O : Mo) : Option (AV × Mo) :=
  (match O[k4]? with
  | some (.arr [.ref 0 km 0]) => (
  (match step32S [.iface 96 (.ref 0 kd 0), .ref 0 km 0] O with
  | some (.tup [.bool w, .bool false], O2) => (
  oneV w i k1 k5 k6 k7 O2)
  | _ => none))
  | _ => none)
def oneQ (i : Int) (k1 k4 k5 k6 k7 : Nat) (O : Mo) : Option (AV × Mo) :=
  (match O[k1]? with
  | some (.arr [.bref 0 ka5 0 n5 t5]) => (
  (match O[ka5]? with
  | some (.buf 1 cs5) => (
  (if n5 = cs5.length then (
  (if t5 = cs5.length then (
  (if 0 ≤ i then (
  (if i < (cs5.length : Int) then (
  (match cs5[i.toNat]? with
  | some (.ref 0 kd5 0) => (
  oneT i kd5 k1 k4 k5 k6 k7 O)
  | _ => none))
  else none))
  else none))
  else none))
  else none))
  | _ => none))
  | _ => none)
def oneB (i x : Int) (kd k1 k2 k4 k5 k6 k7 : Nat) (O : Mo) : Option (AV × Mo) :=
  (match O[k1]? with
  | some (.arr [.bref 0 ka3 0 n3 t3]) => (
  (match O[ka3]? with
  | some (.buf 1 cs3) => (
  (if n3 = cs3.length then (
  (if t3 = cs3.length then (
  (if 0 ≤ i then (
  (if i < (cs3.length : Int) then (
  (match (O.set ka3 (.buf 1 (cs3.set i.toNat (.ref 0 kd 0))))[k2]? with
  | some (.arr [.bref 0 kb4 0 n4 t4]) => (
  (match (O.set ka3 (.buf 1 (cs3.set i.toNat (.ref 0 kd 0))))[kb4]? with
  | some (.buf 1 ls4) => (
  (if n4 = ls4.length then (
  (if t4 = ls4.length then (
  (if i < (ls4.length : Int) then (
  (match ls4[i.toNat]? with
  | some (.int .i64 x4) => (
  (if x4 = x then (
  oneQ i k1 k4 k5 k6 k7 ((O.set ka3 (.buf 1 (cs3.set i.toNat (.ref 0 kd 0)))).set kb4 (.buf 1 (ls4.set i.toNat (.int .i64 (x - 1))))))
  else none))
  | _ => none))
  else none))
  else none))
  else none))
  | _ => none))
  | _ => none))
  else none))
  else none))
  else none))
  else none))
  | _ => none))
  | _ => none)
def oneA (i : Int) (k1 k2 k3 k4 k5 k6 k7 : Nat) (O : Mo) : Option (AV × Mo) :=
  (match O[k2]? with
  | some (.arr [.bref 0 kb 0 n2 t2]) => (
  (match O[kb]? with
  | some (.buf 1 ls) => (
  (if n2 = ls.length then (
  (if t2 = ls.length then (
  (if 0 ≤ i then (
  (if i < (ls.length : Int) then (
  (match ls[i.toNat]? with
  | some (.int .i64 x) => (
  if x = 0 then some (.tup [.bool false, .bool false, .bool false], O)
  else (
    (if 0 ≤ x ∧ x ≤ 1000 then (
    (match O[k3]? with
    | some (.arr [.int .i64 p, .int .i64 tt]) => (
    (match newDrawS [.agg [.int .i64 p, .int .i64 tt], .int .i64 i] O with
    | some (.tup [.ref 0 kd 0, .int .i64 e], O3) => (
    (if e = 0 then (
    oneB i x kd k1 k2 k4 k5 k6 k7 O3)
    else none))
    | _ => none))
    | _ => none))
    else none)
  ))
  | _ => none))
  else none))
  else none))
  else none))
  else none))
  | _ => none))
  | _ => none)
def oneS : Sp := fun args O =>
  match args with
  | [.int .i64 i, .ref 0 k1 0, .ref 0 k2 0, .ref 0 k3 0, .ref 0 k4 0, .ref 0 k5 0, .ref 0 k6 0, .ref 0 k7 0] => (
    (match O[k1]? with
    | some (.arr [.bref 0 ka 0 n t]) => (
    (match O[ka]? with
    | some (.buf 1 cs) => (
    (if n = cs.length then (
    (if t = cs.length then (
    (if 0 ≤ i then (
    (if i < (cs.length : Int) then (
    (match cs[i.toNat]? with
    | some .nilp => oneA i k1 k2 k3 k4 k5 k6 k7 O
    | some (.ref 0 kd 0) => oneT i kd k1 k4 k5 k6 k7 O
    | _ => none))
    else none))
    else none))
    else none))
    else none))
    | _ => none))
    | _ => none)
  )
  | _ => none
theorem oneS_ok : SpOk Tryz.prog 53 oneS := by
  intro args O r O' h S
  unfold oneS at h
  repeat' (split at h)
  all_goals first | (cases h; done) | skip
  all_goals try unfold oneA at h
  all_goals try (repeat' (split at h))
  all_goals first | (cases h; done) | skip
  all_goals try unfold oneB at h
  all_goals try (repeat' (split at h))
  all_goals first | (cases h; done) | skip
  all_goals try unfold oneQ at h
  all_goals try (repeat' (split at h))
  all_goals first | (cases h; done) | skip
  all_goals try unfold oneT at h
  all_goals try (repeat' (split at h))
  all_goals first | (cases h; done) | skip
  all_goals try unfold oneV at h
  all_goals try (repeat' (split at h))
  all_goals first | (cases h; done) | skip
  all_goals try unfold oneW at h
  all_goals try (repeat' (split at h))
  all_goals first | (cases h; done) | skip
  all_goals try unfold oneU at h
  all_goals try (repeat' (split at h))
  all_goals first | (cases h; done) | skip
  all_goals first | (cases h; done) | skip
  all_goals
    simp only [Option.some.injEq, Prod.mk.injEq] at h
    obtain ⟨rfl, rfl⟩ := h
    refine bodyA (tabC_cons newDrawS_ok (tabC_cons step32S_ok (tabC_cons drawDoneS_ok (tabC_cons drawResS_ok (tabC_nil _))))) (n := 0) F53_code ?_
    try simp only [acc, accZ, errA] at *
    simp (disch := first | decide | omega | assumption | exact isS_of (by assumption) | exact ixok_of (by assumption) (by omega) | exact slOk_of (by assumption) | exact bufOk_of (by assumption) (by omega) | exact ixok_ofR (by assumption) (by omega) | exact slOk_ofR (by assumption) | exact lenOk_of (by assumption) (by omega) | exact ixok_of8 (by assumption) (by omega) | fail) only [F53, RAs, RBs, RCs, RDs, REs, RFs, RGs, RHs, RIs, RJs, RKs, RLs, RRt, Nat.reduceLT, Nat.reduceEqDiff, Nat.reduceAdd, Nat.reduceSub, RXa, RXb, RXc, methR, methT, mks_o, RSl, RSr, RSm, RSx, acc, accZ, errA, *]

attribute [local irreducible] oneS
/-- ticketlinelaw32.TicketRaces: the loop 2 -/
def trAll (k1 k2 k3 k4 k5 k6 k7 : Nat) (pv : AV) (rd : Int) (K : Int → Mo → Option (AV × Mo)) : Nat → Bool → Bool → Int → Mo → Option (AV × Mo)
  | 0, op, mv, k, O => none
  | m + 1, op, mv, k, O => (
    (match O[k6]? with
    | some (.arr [.int .u8 T]) => (
    (if 0 ≤ T ∧ T ≤ 255 then (
    (if 0 ≤ k then (
    if k < T then (
      (match oneS [.int .i64 (k), .ref 0 k1 0, .ref 0 k2 0, .ref 0 k3 0, .ref 0 k4 0, .ref 0 k5 0, .ref 0 k6 0, .ref 0 k7 0] O with
      | some (.tup [.bool w, .bool o, .bool false], O1) => (
      match op with
      | true =>
        match mv with
        | true => trAll k1 k2 k3 k4 k5 k6 k7 pv rd K m true true (k + 1) O1
        | false =>
          match o with
          | true => trAll k1 k2 k3 k4 k5 k6 k7 pv rd K m true (!w) (k + 1) O1
          | false => trAll k1 k2 k3 k4 k5 k6 k7 pv rd K m true false (k + 1) O1
      | false =>
        match mv with
        | true => none
        | false =>
          match o with
          | true => trAll k1 k2 k3 k4 k5 k6 k7 pv rd K m true (!w) (k + 1) O1
          | false => trAll k1 k2 k3 k4 k5 k6 k7 pv rd K m false false (k + 1) O1)
      | _ => none)
    )
    else (
      match op with
      | true =>
        match mv with
        | true => K (rd + 1) O
        | false => none
      | false => (
        (match O[k5]? with
        | some (.arr [.map 0 kg]) => (
        (match mapB O kg with
        | some (l) => (
        (match O[k7]? with
        | some (.arr [.int .u8 mo]) => (
        (if 0 ≤ mo ∧ mo ≤ 255 then (
        (if 0 ≤ T * mo ∧ T * mo ≤ 100000 then (
        (if (l.length : Int) = T * mo then (
        (match known32S [] O with
        | some (.bool d, O2) => (
        some (.bool d, O2))
        | _ => none))
        else none))
        else none))
        else none))
        | _ => none))
        | _ => none))
        | _ => none)
      )
    ))
    else none))
    else none))
    | _ => none)
  )
theorem trAll_loop {S : Ms} (k1 k2 k3 k4 k5 k6 k7 : Nat) (pv : AV) (rd : Int) (K :  Int → Mo → Option (AV × Mo)) (h0 : 0 ≤ rd) (h1 : rd ≤ 5000) (Mx : Nat) (hK : ∀ (rd : Int) (O : Mo) (env : Env) (r : AV) (O' : Mo), K rd O = some (r, O') → env 2 = pv → env 3 = .ref 0 k6 0 → env 4 = .ref 0 k7 0 → env 7 = .ref 0 k3 0 → env 8 = .ref 0 k4 0 → env 10 = .ref 0 k2 0 → env 11 = .ref 0 k1 0 → env 12 = .ref 0 k5 0 → env 14 = .func 53 [.ref 0 k1 0, .ref 0 k2 0, .ref 0 k3 0, .ref 0 k4 0, .ref 0 k5 0, .ref 0 k6 0, .ref 0 k7 0] → env 15 = .int .i64 rd → W10x3 cfgA (tabC [(41, known32S), (14, formatS), (53, oneS)]) 100000 (loopN (exec cfgA (tabC [(41, known32S), (14, formatS), (53, oneS)]) 100000 B10x3) [] Mx ⟨leOf 139 env, O, S ++ [[]]⟩) = some (r, O', S)) : ∀ (n : Nat) (op mv : Bool) (k : Int) (O : Mo) (env : Env) (M : Nat) (r : AV) (O' : Mo) (h : trAll k1 k2 k3 k4 k5 k6 k7 pv rd K n op mv k O = some (r, O')) (hM : n < M) (e0 : env 2 = pv) (e1 : env 3 = .ref 0 k6 0) (e2 : env 4 = .ref 0 k7 0) (e3 : env 7 = .ref 0 k3 0) (e4 : env 8 = .ref 0 k4 0) (e5 : env 10 = .ref 0 k2 0) (e6 : env 11 = .ref 0 k1 0) (e7 : env 12 = .ref 0 k5 0) (e8 : env 14 = .func 53 [.ref 0 k1 0, .ref 0 k2 0, .ref 0 k3 0, .ref 0 k4 0, .ref 0 k5 0, .ref 0 k6 0, .ref 0 k7 0]) (e9 : env 15 = .int .i64 rd) (e10 : env 20 = .bool op) (e11 : env 21 = .bool mv) (e12 : env 22 = .int .i64 k),
    W10x3 cfgA (tabC [(41, known32S), (14, formatS), (53, oneS)]) 100000 (loopK (exec cfgA (tabC [(41, known32S), (14, formatS), (53, oneS)]) 100000 B10x3) Mx (seqC (cfg := cfgA) (call := tabC [(41, known32S), (14, formatS), (53, oneS)]) 100000 (blockC 3 (seqC (cfg := cfgA) (call := tabC [(41, known32S), (14, formatS), (53, oneS)]) 100000 (blockC 6 (loopN (exec cfgA (tabC [(41, known32S), (14, formatS), (53, oneS)]) 100000 B10x2) [] M ⟨leOf 139 env, O, S ++ [[]]⟩)) (.seq
 (.seq
 (.ops 33 [⟨some 124, none, .mv (.t 20), []⟩,
 ⟨some 125, none, .un .not (.t 124), []⟩])
 (.cond (.t 125)
 (.seq
 (.ops 34 [⟨some 126, none, .ld 1 false (.t 12), []⟩,
 ⟨some 127, none, .len .map (.t 126), []⟩,
 ⟨some 128, none, .ld 1 false (.t 3), []⟩,
 ⟨some 129, none, .cvi .i64 (.t 128), []⟩,
 ⟨some 130, none, .ld 1 false (.t 4), []⟩,
 ⟨some 131, none, .cvi .i64 (.t 130), []⟩,
 ⟨some 132, none, .bin .mul (.t 129) (.t 131), []⟩,
 ⟨some 133, none, .bin .eql (.t 127) (.t 132), []⟩,
 ⟨some 134, none, .mv (.t 133), []⟩,
 ⟨some 135, some (134, true), .call 41 [], []⟩,
 ⟨some 136, none, .pick (.t 134) (.t 135) (.c (.bool false)), []⟩,
 ⟨some 6, none, .mv (.t 136), []⟩])
 .ret)
 .skip))
 (.seq
 (.ops 35 [⟨some 137, none, .mv (.t 21), []⟩,
 ⟨some 138, none, .un .not (.t 137), []⟩])
 (.cond (.t 138)
 (.seq
 (.ops 36 [⟨some 6, none, .mv (.c (.bool false)), []⟩])
 .ret)
 .skip))))) (.ops 18 [⟨some 75, none, .mv (.t 15), []⟩,
 ⟨some 76, none, .bin .add (.t 75) (.c (.int .i64 1)), []⟩,
 ⟨some 15, none, .mv (.t 76), []⟩]))) = some (r, O', S) := by
  intro n
  induction n with
  | zero =>
    intro op mv k O env M r O' h hM e0 e1 e2 e3 e4 e5 e6 e7 e8 e9 e10 e11 e12
    unfold trAll at h
    first | (cases h; done) | (dsimp only at h; cases h; done) | (split at h <;> first | (cases h; done) | (exfalso; omega))
  | succ n ih =>
    intro op mv k O env M r O' h hM e0 e1 e2 e3 e4 e5 e6 e7 e8 e9 e10 e11 e12
    obtain ⟨M, rfl⟩ : ∃ M', M = M' + 1 := ⟨M - 1, by omega⟩
    unfold trAll at h
    repeat' (split at h)
    all_goals first | (cases h; done) | (dsimp only at h; cases h; done) | (exfalso; omega) | skip
    all_goals
      try dsimp only at h
      try simp only [acc, accZ, errA] at *
      first
        | (have hg_ : trAll k1 k2 k3 k4 k5 k6 k7 pv rd K n _ _ _ _ = _ := h
           clear hg_
           simp (disch := first | decide | omega | assumption | exact isS_of (by assumption) | exact ixok_of (by assumption) (by omega) | exact slOk_of (by assumption) | exact bufOk_of (by assumption) (by omega) | exact ixok_ofR (by assumption) (by omega) | exact slOk_ofR (by assumption) | exact lenOk_of (by assumption) (by omega) | exact ixok_of8 (by assumption) (by omega) | fail) only [loop_unf, loopK_N, loopK_E, loopK_R, RAs, RBs, RCs, RDs, REs, RFs, RGs, RHs, RIs, RJs, RKs, RLs, RRt, Nat.reduceLT, Nat.reduceEqDiff, Nat.reduceAdd, Nat.reduceSub, RXa, RXb, RXc, methR, methT, mks_o, RSl, RSr, RSm, RSx, *]
           refine ih _ _ _ _ _ _ _ _ h (by omega) ?_ ?_ ?_ ?_ ?_ ?_ ?_ ?_ ?_ ?_ ?_ ?_ ?_
           all_goals simp (disch := first | decide | omega | assumption | exact isS_of (by assumption) | exact ixok_of (by assumption) (by omega) | exact slOk_of (by assumption) | exact bufOk_of (by assumption) (by omega) | exact ixok_ofR (by assumption) (by omega) | exact slOk_ofR (by assumption) | exact lenOk_of (by assumption) (by omega) | exact ixok_of8 (by assumption) (by omega) | fail) only [RAs, RBs, RCs, RDs, REs, RFs, RGs, RHs, RIs, RJs, RKs, RLs, RRt, Nat.reduceLT, Nat.reduceEqDiff, Nat.reduceAdd, Nat.reduceSub, RXa, RXb, RXc, methR, methT, mks_o, RSl, RSr, RSm, RSx, *])
        | (have hg_ : K _ _ = _ := h
           clear hg_
           simp (disch := first | decide | omega | assumption | exact isS_of (by assumption) | exact ixok_of (by assumption) (by omega) | exact slOk_of (by assumption) | exact bufOk_of (by assumption) (by omega) | exact ixok_ofR (by assumption) (by omega) | exact slOk_ofR (by assumption) | exact lenOk_of (by assumption) (by omega) | exact ixok_of8 (by assumption) (by omega) | fail) only [loop_unf, loopK_N, loopK_E, loopK_R, RAs, RBs, RCs, RDs, REs, RFs, RGs, RHs, RIs, RJs, RKs, RLs, RRt, Nat.reduceLT, Nat.reduceEqDiff, Nat.reduceAdd, Nat.reduceSub, RXa, RXb, RXc, methR, methT, mks_o, RSl, RSr, RSm, RSx, *]
           refine hK _ _ _ _ _ h ?_ ?_ ?_ ?_ ?_ ?_ ?_ ?_ ?_ ?_
           all_goals simp (disch := first | decide | omega | assumption | exact isS_of (by assumption) | exact ixok_of (by assumption) (by omega) | exact slOk_of (by assumption) | exact bufOk_of (by assumption) (by omega) | exact ixok_ofR (by assumption) (by omega) | exact slOk_ofR (by assumption) | exact lenOk_of (by assumption) (by omega) | exact ixok_of8 (by assumption) (by omega) | fail) only [RAs, RBs, RCs, RDs, REs, RFs, RGs, RHs, RIs, RJs, RKs, RLs, RRt, Nat.reduceLT, Nat.reduceEqDiff, Nat.reduceAdd, Nat.reduceSub, RXa, RXb, RXc, methR, methT, mks_o, RSl, RSr, RSm, RSx, *])
        | (simp only [Option.some.injEq, Prod.mk.injEq] at h
           obtain ⟨rfl, rfl⟩ := h
           simp (disch := first | decide | omega | assumption | exact isS_of (by assumption) | exact ixok_of (by assumption) (by omega) | exact slOk_of (by assumption) | exact bufOk_of (by assumption) (by omega) | exact ixok_ofR (by assumption) (by omega) | exact slOk_ofR (by assumption) | exact lenOk_of (by assumption) (by omega) | exact ixok_of8 (by assumption) (by omega) | fail) only [W10x3, loop_unf, loopK_N, loopK_E, loopK_R, RAs, RBs, RCs, RDs, REs, RFs, RGs, RHs, RIs, RJs, RKs, RLs, RRt, Nat.reduceLT, Nat.reduceEqDiff, Nat.reduceAdd, Nat.reduceSub, RXa, RXb, RXc, methR, methT, mks_o, RSl, RSr, RSm, RSx, *])

attribute [local irreducible] trAll
/-- ticketlinelaw32.TicketRaces: the loop 1 -/
def trPick (k1 k2 k3 k4 k5 k6 k7 : Nat) (pv : AV) (rd : Int) (K : Int → Mo → Option (AV × Mo)) : Nat → Int → Mo → Option (AV × Mo)
  | 0, k, O => none
  | m + 1, k, O => (
    (match rd8 O pv with
    | some (pl) => (
    (if pl.length ≤ 1000 then (
    if k < (pl.length : Int) then (
      (if 0 ≤ k then (
      (match pl[k.toNat]? with
      | some (c) => (
      (if 0 ≤ c ∧ c ≤ 255 then (
      (match O[k6]? with
      | some (.arr [.int .u8 T]) => (
      (if 0 < T ∧ T ≤ 255 then (
      (if 0 ≤ c % T ∧ c % T < T then (
      (match oneS [.int .i64 (c % T), .ref 0 k1 0, .ref 0 k2 0, .ref 0 k3 0, .ref 0 k4 0, .ref 0 k5 0, .ref 0 k6 0, .ref 0 k7 0] O with
      | some (.tup [.bool w, .bool o, .bool false], O1) => (
      trPick k1 k2 k3 k4 k5 k6 k7 pv rd K m (k + 1) O1)
      | _ => none))
      else none))
      else none))
      | _ => none))
      else none))
      | _ => none))
      else none)
    )
    else trAll k1 k2 k3 k4 k5 k6 k7 pv rd K 1002 false false 0 O)
    else none))
    | _ => none)
  )
theorem trPick_loop {S : Ms} (k1 k2 k3 k4 k5 k6 k7 : Nat) (pv : AV) (rd : Int) (K :  Int → Mo → Option (AV × Mo)) (h0 : 0 ≤ rd) (h1 : rd ≤ 5000) (Mx : Nat) (hK : ∀ (rd : Int) (O : Mo) (env : Env) (r : AV) (O' : Mo), K rd O = some (r, O') → env 2 = pv → env 3 = .ref 0 k6 0 → env 4 = .ref 0 k7 0 → env 7 = .ref 0 k3 0 → env 8 = .ref 0 k4 0 → env 10 = .ref 0 k2 0 → env 11 = .ref 0 k1 0 → env 12 = .ref 0 k5 0 → env 14 = .func 53 [.ref 0 k1 0, .ref 0 k2 0, .ref 0 k3 0, .ref 0 k4 0, .ref 0 k5 0, .ref 0 k6 0, .ref 0 k7 0] → env 15 = .int .i64 rd → W10x3 cfgA (tabC [(41, known32S), (14, formatS), (53, oneS)]) 100000 (loopN (exec cfgA (tabC [(41, known32S), (14, formatS), (53, oneS)]) 100000 B10x3) [] Mx ⟨leOf 139 env, O, S ++ [[]]⟩) = some (r, O', S)) : ∀ (n : Nat) (k : Int) (O : Mo) (env : Env) (M : Nat) (r : AV) (O' : Mo) (h : trPick k1 k2 k3 k4 k5 k6 k7 pv rd K n k O = some (r, O')) (hM : n < M) (e0 : env 2 = pv) (e1 : env 3 = .ref 0 k6 0) (e2 : env 4 = .ref 0 k7 0) (e3 : env 7 = .ref 0 k3 0) (e4 : env 8 = .ref 0 k4 0) (e5 : env 10 = .ref 0 k2 0) (e6 : env 11 = .ref 0 k1 0) (e7 : env 12 = .ref 0 k5 0) (e8 : env 14 = .func 53 [.ref 0 k1 0, .ref 0 k2 0, .ref 0 k3 0, .ref 0 k4 0, .ref 0 k5 0, .ref 0 k6 0, .ref 0 k7 0]) (e9 : env 15 = .int .i64 rd) (e10 : env 16 = .int .i64 k),
    W10x3 cfgA (tabC [(41, known32S), (14, formatS), (53, oneS)]) 100000 (loopK (exec cfgA (tabC [(41, known32S), (14, formatS), (53, oneS)]) 100000 B10x3) Mx (seqC (cfg := cfgA) (call := tabC [(41, known32S), (14, formatS), (53, oneS)]) 100000 (blockC 3 (seqC (cfg := cfgA) (call := tabC [(41, known32S), (14, formatS), (53, oneS)]) 100000 (blockC 4 (loopN (exec cfgA (tabC [(41, known32S), (14, formatS), (53, oneS)]) 100000 B10x1) [] M ⟨leOf 139 env, O, S ++ [[]]⟩)) (.seq
 (.ops 25 [⟨some 20, none, .mv (.c (.bool false)), []⟩,
 ⟨some 21, none, .mv (.c (.bool false)), []⟩])
 (.seq
 (.seq
 (.ops 26 [⟨some 22, none, .mv (.c (.int .i64 0)), []⟩])
 (.block 6
 (.loop [] B10x2)))
 (.seq
 (.seq
 (.ops 33 [⟨some 124, none, .mv (.t 20), []⟩,
 ⟨some 125, none, .un .not (.t 124), []⟩])
 (.cond (.t 125)
 (.seq
 (.ops 34 [⟨some 126, none, .ld 1 false (.t 12), []⟩,
 ⟨some 127, none, .len .map (.t 126), []⟩,
 ⟨some 128, none, .ld 1 false (.t 3), []⟩,
 ⟨some 129, none, .cvi .i64 (.t 128), []⟩,
 ⟨some 130, none, .ld 1 false (.t 4), []⟩,
 ⟨some 131, none, .cvi .i64 (.t 130), []⟩,
 ⟨some 132, none, .bin .mul (.t 129) (.t 131), []⟩,
 ⟨some 133, none, .bin .eql (.t 127) (.t 132), []⟩,
 ⟨some 134, none, .mv (.t 133), []⟩,
 ⟨some 135, some (134, true), .call 41 [], []⟩,
 ⟨some 136, none, .pick (.t 134) (.t 135) (.c (.bool false)), []⟩,
 ⟨some 6, none, .mv (.t 136), []⟩])
 .ret)
 .skip))
 (.seq
 (.ops 35 [⟨some 137, none, .mv (.t 21), []⟩,
 ⟨some 138, none, .un .not (.t 137), []⟩])
 (.cond (.t 138)
 (.seq
 (.ops 36 [⟨some 6, none, .mv (.c (.bool false)), []⟩])
 .ret)
 .skip))))))) (.ops 18 [⟨some 75, none, .mv (.t 15), []⟩,
 ⟨some 76, none, .bin .add (.t 75) (.c (.int .i64 1)), []⟩,
 ⟨some 15, none, .mv (.t 76), []⟩]))) = some (r, O', S) := by
  intro n
  induction n with
  | zero =>
    intro k O env M r O' h hM e0 e1 e2 e3 e4 e5 e6 e7 e8 e9 e10
    unfold trPick at h
    first | (cases h; done) | (dsimp only at h; cases h; done) | (split at h <;> first | (cases h; done) | (exfalso; omega))
  | succ n ih =>
    intro k O env M r O' h hM e0 e1 e2 e3 e4 e5 e6 e7 e8 e9 e10
    obtain ⟨M, rfl⟩ : ∃ M', M = M' + 1 := ⟨M - 1, by omega⟩
    unfold trPick at h
    repeat' (split at h)
    all_goals first | (cases h; done) | (dsimp only at h; cases h; done) | (exfalso; omega) | skip
    all_goals
      try dsimp only at h
      try simp only [acc, accZ, errA] at *
      first
        | (have hg_ : trPick k1 k2 k3 k4 k5 k6 k7 pv rd K n _ _ = _ := h
           clear hg_
           simp (disch := first | decide | omega | assumption | exact isS_of (by assumption) | exact ixok_of (by assumption) (by omega) | exact slOk_of (by assumption) | exact bufOk_of (by assumption) (by omega) | exact ixok_ofR (by assumption) (by omega) | exact slOk_ofR (by assumption) | exact lenOk_of (by assumption) (by omega) | exact ixok_of8 (by assumption) (by omega) | fail) only [loop_unf, loopK_N, loopK_E, loopK_R, RAs, RBs, RCs, RDs, REs, RFs, RGs, RHs, RIs, RJs, RKs, RLs, RRt, Nat.reduceLT, Nat.reduceEqDiff, Nat.reduceAdd, Nat.reduceSub, RXa, RXb, RXc, methR, methT, mks_o, RSl, RSr, RSm, RSx, *]
           refine ih _ _ _ _ _ _ h (by omega) ?_ ?_ ?_ ?_ ?_ ?_ ?_ ?_ ?_ ?_ ?_
           all_goals simp (disch := first | decide | omega | assumption | exact isS_of (by assumption) | exact ixok_of (by assumption) (by omega) | exact slOk_of (by assumption) | exact bufOk_of (by assumption) (by omega) | exact ixok_ofR (by assumption) (by omega) | exact slOk_ofR (by assumption) | exact lenOk_of (by assumption) (by omega) | exact ixok_of8 (by assumption) (by omega) | fail) only [RAs, RBs, RCs, RDs, REs, RFs, RGs, RHs, RIs, RJs, RKs, RLs, RRt, Nat.reduceLT, Nat.reduceEqDiff, Nat.reduceAdd, Nat.reduceSub, RXa, RXb, RXc, methR, methT, mks_o, RSl, RSr, RSm, RSx, *])
        | (have hg_ : trAll _ _ _ _ _ _ _ _ _ _ _ _ _ _ _ = _ := h
           clear hg_
           simp (disch := first | decide | omega | assumption | exact isS_of (by assumption) | exact ixok_of (by assumption) (by omega) | exact slOk_of (by assumption) | exact bufOk_of (by assumption) (by omega) | exact ixok_ofR (by assumption) (by omega) | exact slOk_ofR (by assumption) | exact lenOk_of (by assumption) (by omega) | exact ixok_of8 (by assumption) (by omega) | fail) only [loop_unf, loopK_N, loopK_E, loopK_R, RAs, RBs, RCs, RDs, REs, RFs, RGs, RHs, RIs, RJs, RKs, RLs, RRt, Nat.reduceLT, Nat.reduceEqDiff, Nat.reduceAdd, Nat.reduceSub, RXa, RXb, RXc, methR, methT, mks_o, RSl, RSr, RSm, RSx, *]
           simp (disch := first | decide | omega | assumption | exact isS_of (by assumption) | exact ixok_of (by assumption) (by omega) | exact slOk_of (by assumption) | exact bufOk_of (by assumption) (by omega) | exact ixok_ofR (by assumption) (by omega) | exact slOk_ofR (by assumption) | exact lenOk_of (by assumption) (by omega) | exact ixok_of8 (by assumption) (by omega) | fail) only [e_loop, RAs, RBs, RCs, RDs, REs, RFs, RGs, RHs, RIs, RJs, RKs, RLs, RRt, Nat.reduceLT, Nat.reduceEqDiff, Nat.reduceAdd, Nat.reduceSub, RXa, RXb, RXc, methR, methT, mks_o, RSl, RSr, RSm, RSx, *]
           refine trAll_loop _ _ _ _ _ _ _ _ _ _ (by omega) (by omega) _ hK _ _ _ _ _ _ _ _ _ h (by omega) ?_ ?_ ?_ ?_ ?_ ?_ ?_ ?_ ?_ ?_ ?_ ?_ ?_
           all_goals simp (disch := first | decide | omega | assumption | exact isS_of (by assumption) | exact ixok_of (by assumption) (by omega) | exact slOk_of (by assumption) | exact bufOk_of (by assumption) (by omega) | exact ixok_ofR (by assumption) (by omega) | exact slOk_ofR (by assumption) | exact lenOk_of (by assumption) (by omega) | exact ixok_of8 (by assumption) (by omega) | fail) only [RAs, RBs, RCs, RDs, REs, RFs, RGs, RHs, RIs, RJs, RKs, RLs, RRt, Nat.reduceLT, Nat.reduceEqDiff, Nat.reduceAdd, Nat.reduceSub, RXa, RXb, RXc, methR, methT, mks_o, RSl, RSr, RSm, RSx, *])
        | (have hg_ : K _ _ = _ := h
           clear hg_
           simp (disch := first | decide | omega | assumption | exact isS_of (by assumption) | exact ixok_of (by assumption) (by omega) | exact slOk_of (by assumption) | exact bufOk_of (by assumption) (by omega) | exact ixok_ofR (by assumption) (by omega) | exact slOk_ofR (by assumption) | exact lenOk_of (by assumption) (by omega) | exact ixok_of8 (by assumption) (by omega) | fail) only [loop_unf, loopK_N, loopK_E, loopK_R, RAs, RBs, RCs, RDs, REs, RFs, RGs, RHs, RIs, RJs, RKs, RLs, RRt, Nat.reduceLT, Nat.reduceEqDiff, Nat.reduceAdd, Nat.reduceSub, RXa, RXb, RXc, methR, methT, mks_o, RSl, RSr, RSm, RSx, *]
           refine hK _ _ _ _ _ h ?_ ?_ ?_ ?_ ?_ ?_ ?_ ?_ ?_ ?_
           all_goals simp (disch := first | decide | omega | assumption | exact isS_of (by assumption) | exact ixok_of (by assumption) (by omega) | exact slOk_of (by assumption) | exact bufOk_of (by assumption) (by omega) | exact ixok_ofR (by assumption) (by omega) | exact slOk_ofR (by assumption) | exact lenOk_of (by assumption) (by omega) | exact ixok_of8 (by assumption) (by omega) | fail) only [RAs, RBs, RCs, RDs, REs, RFs, RGs, RHs, RIs, RJs, RKs, RLs, RRt, Nat.reduceLT, Nat.reduceEqDiff, Nat.reduceAdd, Nat.reduceSub, RXa, RXb, RXc, methR, methT, mks_o, RSl, RSr, RSm, RSx, *])
        | (simp only [Option.some.injEq, Prod.mk.injEq] at h
           obtain ⟨rfl, rfl⟩ := h
           simp (disch := first | decide | omega | assumption | exact isS_of (by assumption) | exact ixok_of (by assumption) (by omega) | exact slOk_of (by assumption) | exact bufOk_of (by assumption) (by omega) | exact ixok_ofR (by assumption) (by omega) | exact slOk_ofR (by assumption) | exact lenOk_of (by assumption) (by omega) | exact ixok_of8 (by assumption) (by omega) | fail) only [W10x3, loop_unf, loopK_N, loopK_E, loopK_R, RAs, RBs, RCs, RDs, REs, RFs, RGs, RHs, RIs, RJs, RKs, RLs, RRt, Nat.reduceLT, Nat.reduceEqDiff, Nat.reduceAdd, Nat.reduceSub, RXa, RXb, RXc, methR, methT, mks_o, RSl, RSr, RSm, RSx, *])

attribute [local irreducible] trPick
/-- ticketlinelaw32.TicketRaces: the loop 3 -/
def trRnd (k1 k2 k3 k4 k5 k6 k7 : Nat) (pv : AV) : Nat → Int → Mo → Option (AV × Mo)
  | 0, rd, O => none
  | m + 1, rd, O =>
    if rd < 5000 then
      if 0 ≤ rd then trPick k1 k2 k3 k4 k5 k6 k7 pv rd (fun rd O => trRnd k1 k2 k3 k4 k5 k6 k7 pv m rd O) 1002 0 O
      else none
    else none
theorem trRnd_loop {S : Ms} (k1 k2 k3 k4 k5 k6 k7 : Nat) (pv : AV)  : ∀ (n : Nat) (rd : Int) (O : Mo) (env : Env) (M : Nat) (r : AV) (O' : Mo) (h : trRnd k1 k2 k3 k4 k5 k6 k7 pv n rd O = some (r, O')) (hM : n < M) (e0 : env 2 = pv) (e1 : env 3 = .ref 0 k6 0) (e2 : env 4 = .ref 0 k7 0) (e3 : env 7 = .ref 0 k3 0) (e4 : env 8 = .ref 0 k4 0) (e5 : env 10 = .ref 0 k2 0) (e6 : env 11 = .ref 0 k1 0) (e7 : env 12 = .ref 0 k5 0) (e8 : env 14 = .func 53 [.ref 0 k1 0, .ref 0 k2 0, .ref 0 k3 0, .ref 0 k4 0, .ref 0 k5 0, .ref 0 k6 0, .ref 0 k7 0]) (e9 : env 15 = .int .i64 rd),
    W10x3 cfgA (tabC [(41, known32S), (14, formatS), (53, oneS)]) 100000 (loopN (exec cfgA (tabC [(41, known32S), (14, formatS), (53, oneS)]) 100000 B10x3) [] M ⟨leOf 139 env, O, S ++ [[]]⟩) = some (r, O', S) := by
  intro n
  induction n with
  | zero =>
    intro rd O env M r O' h hM e0 e1 e2 e3 e4 e5 e6 e7 e8 e9
    unfold trRnd at h
    first | (cases h; done) | (dsimp only at h; cases h; done) | (split at h <;> first | (cases h; done) | (exfalso; omega))
  | succ n ih =>
    intro rd O env M r O' h hM e0 e1 e2 e3 e4 e5 e6 e7 e8 e9
    obtain ⟨M, rfl⟩ : ∃ M', M = M' + 1 := ⟨M - 1, by omega⟩
    unfold trRnd at h
    repeat' (split at h)
    all_goals first | (cases h; done) | (dsimp only at h; cases h; done) | (exfalso; omega) | skip
    all_goals
      try dsimp only at h
      try simp only [acc, accZ, errA] at *
      first
        | (have hg_ : trRnd k1 k2 k3 k4 k5 k6 k7 pv n _ _ = _ := h
           clear hg_
           simp (disch := first | decide | omega | assumption | exact isS_of (by assumption) | exact ixok_of (by assumption) (by omega) | exact slOk_of (by assumption) | exact bufOk_of (by assumption) (by omega) | exact ixok_ofR (by assumption) (by omega) | exact slOk_ofR (by assumption) | exact lenOk_of (by assumption) (by omega) | exact ixok_of8 (by assumption) (by omega) | fail) only [loop_unf, loopK_N, loopK_E, loopK_R, RAs, RBs, RCs, RDs, REs, RFs, RGs, RHs, RIs, RJs, RKs, RLs, RRt, Nat.reduceLT, Nat.reduceEqDiff, Nat.reduceAdd, Nat.reduceSub, RXa, RXb, RXc, methR, methT, mks_o, RSl, RSr, RSm, RSx, *]
           refine ih _ _ _ _ _ _ h (by omega) ?_ ?_ ?_ ?_ ?_ ?_ ?_ ?_ ?_ ?_
           all_goals simp (disch := first | decide | omega | assumption | exact isS_of (by assumption) | exact ixok_of (by assumption) (by omega) | exact slOk_of (by assumption) | exact bufOk_of (by assumption) (by omega) | exact ixok_ofR (by assumption) (by omega) | exact slOk_ofR (by assumption) | exact lenOk_of (by assumption) (by omega) | exact ixok_of8 (by assumption) (by omega) | fail) only [RAs, RBs, RCs, RDs, REs, RFs, RGs, RHs, RIs, RJs, RKs, RLs, RRt, Nat.reduceLT, Nat.reduceEqDiff, Nat.reduceAdd, Nat.reduceSub, RXa, RXb, RXc, methR, methT, mks_o, RSl, RSr, RSm, RSx, *])
        | (have hg_ : trPick _ _ _ _ _ _ _ _ _ _ _ _ _ = _ := h
           clear hg_
           simp (disch := first | decide | omega | assumption | exact isS_of (by assumption) | exact ixok_of (by assumption) (by omega) | exact slOk_of (by assumption) | exact bufOk_of (by assumption) (by omega) | exact ixok_ofR (by assumption) (by omega) | exact slOk_ofR (by assumption) | exact lenOk_of (by assumption) (by omega) | exact ixok_of8 (by assumption) (by omega) | fail) only [loop_unf, loopK_N, loopK_E, loopK_R, RAs, RBs, RCs, RDs, REs, RFs, RGs, RHs, RIs, RJs, RKs, RLs, RRt, Nat.reduceLT, Nat.reduceEqDiff, Nat.reduceAdd, Nat.reduceSub, RXa, RXb, RXc, methR, methT, mks_o, RSl, RSr, RSm, RSx, *]
           refine trPick_loop _ _ _ _ _ _ _ _ _ _ (by omega) (by omega) _ (fun x0 O env r O' h y0 y1 y2 y3 y4 y5 y6 y7 y8 y9 => ih x0 O env _ r O' h (by omega) y0 y1 y2 y3 y4 y5 y6 y7 y8 y9) _ _ _ _ _ _ _ h (by omega) ?_ ?_ ?_ ?_ ?_ ?_ ?_ ?_ ?_ ?_ ?_
           all_goals simp (disch := first | decide | omega | assumption | exact isS_of (by assumption) | exact ixok_of (by assumption) (by omega) | exact slOk_of (by assumption) | exact bufOk_of (by assumption) (by omega) | exact ixok_ofR (by assumption) (by omega) | exact slOk_ofR (by assumption) | exact lenOk_of (by assumption) (by omega) | exact ixok_of8 (by assumption) (by omega) | fail) only [RAs, RBs, RCs, RDs, REs, RFs, RGs, RHs, RIs, RJs, RKs, RLs, RRt, Nat.reduceLT, Nat.reduceEqDiff, Nat.reduceAdd, Nat.reduceSub, RXa, RXb, RXc, methR, methT, mks_o, RSl, RSr, RSm, RSx, *])
        | (simp only [Option.some.injEq, Prod.mk.injEq] at h
           obtain ⟨rfl, rfl⟩ := h
           simp (disch := first | decide | omega | assumption | exact isS_of (by assumption) | exact ixok_of (by assumption) (by omega) | exact slOk_of (by assumption) | exact bufOk_of (by assumption) (by omega) | exact ixok_ofR (by assumption) (by omega) | exact slOk_ofR (by assumption) | exact lenOk_of (by assumption) (by omega) | exact ixok_of8 (by assumption) (by omega) | fail) only [W10x3, loop_unf, loopK_N, loopK_E, loopK_R, RAs, RBs, RCs, RDs, REs, RFs, RGs, RHs, RIs, RJs, RKs, RLs, RRt, Nat.reduceLT, Nat.reduceEqDiff, Nat.reduceAdd, Nat.reduceSub, RXa, RXb, RXc, methR, methT, mks_o, RSl, RSr, RSm, RSx, *])

attribute [local irreducible] trRnd
/-- ticketlinelaw32.TicketRaces: the loop 0 -/
def trIni (k1 k2 k3 k4 k5 k6 k7 : Nat) (pv : AV) (nn : Int) : Nat → Int → Mo → Option (AV × Mo)
  | 0, i, O => none
  | m + 1, i, O =>
    if i < nn then (
      (if 0 ≤ i then (
      (match O[k2]? with
      | some (.arr [.bref 0 kb 0 n2 t2]) => (
      (match O[kb]? with
      | some (.buf 1 ls) => (
      (if n2 = ls.length then (
      (if t2 = ls.length then (
      (if i < (ls.length : Int) then (
      (match O[k7]? with
      | some (.arr [.int .u8 mo]) => (
      (if 0 ≤ mo ∧ mo ≤ 255 then (
      trIni k1 k2 k3 k4 k5 k6 k7 pv nn m (i + 1) (O.set kb (.buf 1 (ls.set i.toNat (.int .i64 mo)))))
      else none))
      | _ => none))
      else none))
      else none))
      else none))
      | _ => none))
      | _ => none))
      else none)
    )
    else trRnd k1 k2 k3 k4 k5 k6 k7 pv 5002 0 O
theorem trIni_loop {S : Ms} (k1 k2 k3 k4 k5 k6 k7 : Nat) (pv : AV) (nn : Int) (hn0 : 0 ≤ nn) (hn1 : nn ≤ 255) : ∀ (n : Nat) (i : Int) (O : Mo) (env : Env) (M : Nat) (r : AV) (O' : Mo) (h : trIni k1 k2 k3 k4 k5 k6 k7 pv nn n i O = some (r, O')) (hM : n < M) (e0 : env 2 = pv) (e1 : env 3 = .ref 0 k6 0) (e2 : env 4 = .ref 0 k7 0) (e3 : env 7 = .ref 0 k3 0) (e4 : env 8 = .ref 0 k4 0) (e5 : env 10 = .ref 0 k2 0) (e6 : env 11 = .ref 0 k1 0) (e7 : env 12 = .ref 0 k5 0) (e8 : env 62 = .int .i64 nn) (e9 : env 63 = .int .i64 i),
    W10x0 cfgA (tabC [(41, known32S), (14, formatS), (53, oneS)]) 100000 (loopN (exec cfgA (tabC [(41, known32S), (14, formatS), (53, oneS)]) 100000 B10x0) [] M ⟨leOf 139 env, O, S ++ [[]]⟩) = some (r, O', S) := by
  intro n
  induction n with
  | zero =>
    intro i O env M r O' h hM e0 e1 e2 e3 e4 e5 e6 e7 e8 e9
    unfold trIni at h
    first | (cases h; done) | (dsimp only at h; cases h; done) | (split at h <;> first | (cases h; done) | (exfalso; omega))
  | succ n ih =>
    intro i O env M r O' h hM e0 e1 e2 e3 e4 e5 e6 e7 e8 e9
    obtain ⟨M, rfl⟩ : ∃ M', M = M' + 1 := ⟨M - 1, by omega⟩
    unfold trIni at h
    repeat' (split at h)
    all_goals first | (cases h; done) | (dsimp only at h; cases h; done) | (exfalso; omega) | skip
    all_goals
      try dsimp only at h
      try simp only [acc, accZ, errA] at *
      first
        | (have hg_ : trIni k1 k2 k3 k4 k5 k6 k7 pv nn n _ _ = _ := h
           clear hg_
           simp (disch := first | decide | omega | assumption | exact isS_of (by assumption) | exact ixok_of (by assumption) (by omega) | exact slOk_of (by assumption) | exact bufOk_of (by assumption) (by omega) | exact ixok_ofR (by assumption) (by omega) | exact slOk_ofR (by assumption) | exact lenOk_of (by assumption) (by omega) | exact ixok_of8 (by assumption) (by omega) | fail) only [loop_unf, loopK_N, loopK_E, loopK_R, RAs, RBs, RCs, RDs, REs, RFs, RGs, RHs, RIs, RJs, RKs, RLs, RRt, Nat.reduceLT, Nat.reduceEqDiff, Nat.reduceAdd, Nat.reduceSub, RXa, RXb, RXc, methR, methT, mks_o, RSl, RSr, RSm, RSx, *]
           refine ih _ _ _ _ _ _ h (by omega) ?_ ?_ ?_ ?_ ?_ ?_ ?_ ?_ ?_ ?_
           all_goals simp (disch := first | decide | omega | assumption | exact isS_of (by assumption) | exact ixok_of (by assumption) (by omega) | exact slOk_of (by assumption) | exact bufOk_of (by assumption) (by omega) | exact ixok_ofR (by assumption) (by omega) | exact slOk_ofR (by assumption) | exact lenOk_of (by assumption) (by omega) | exact ixok_of8 (by assumption) (by omega) | fail) only [RAs, RBs, RCs, RDs, REs, RFs, RGs, RHs, RIs, RJs, RKs, RLs, RRt, Nat.reduceLT, Nat.reduceEqDiff, Nat.reduceAdd, Nat.reduceSub, RXa, RXb, RXc, methR, methT, mks_o, RSl, RSr, RSm, RSx, *])
        | (have hg_ : trRnd _ _ _ _ _ _ _ _ _ _ _ = _ := h
           clear hg_
           simp (disch := first | decide | omega | assumption | exact isS_of (by assumption) | exact ixok_of (by assumption) (by omega) | exact slOk_of (by assumption) | exact bufOk_of (by assumption) (by omega) | exact ixok_ofR (by assumption) (by omega) | exact slOk_ofR (by assumption) | exact lenOk_of (by assumption) (by omega) | exact ixok_of8 (by assumption) (by omega) | fail) only [loop_unf, loopK_N, loopK_E, loopK_R, RAs, RBs, RCs, RDs, REs, RFs, RGs, RHs, RIs, RJs, RKs, RLs, RRt, Nat.reduceLT, Nat.reduceEqDiff, Nat.reduceAdd, Nat.reduceSub, RXa, RXb, RXc, methR, methT, mks_o, RSl, RSr, RSm, RSx, *]
           simp (disch := first | decide | omega | assumption | exact isS_of (by assumption) | exact ixok_of (by assumption) (by omega) | exact slOk_of (by assumption) | exact bufOk_of (by assumption) (by omega) | exact ixok_ofR (by assumption) (by omega) | exact slOk_ofR (by assumption) | exact lenOk_of (by assumption) (by omega) | exact ixok_of8 (by assumption) (by omega) | fail) only [W10x0, e_loop, RAs, RBs, RCs, RDs, REs, RFs, RGs, RHs, RIs, RJs, RKs, RLs, RRt, Nat.reduceLT, Nat.reduceEqDiff, Nat.reduceAdd, Nat.reduceSub, RXa, RXb, RXc, methR, methT, mks_o, RSl, RSr, RSm, RSx, *]
           refine trRnd_loop _ _ _ _ _ _ _ _ _ _ _ _ _ _ _ h (by omega) ?_ ?_ ?_ ?_ ?_ ?_ ?_ ?_ ?_ ?_
           all_goals simp (disch := first | decide | omega | assumption | exact isS_of (by assumption) | exact ixok_of (by assumption) (by omega) | exact slOk_of (by assumption) | exact bufOk_of (by assumption) (by omega) | exact ixok_ofR (by assumption) (by omega) | exact slOk_ofR (by assumption) | exact lenOk_of (by assumption) (by omega) | exact ixok_of8 (by assumption) (by omega) | fail) only [RAs, RBs, RCs, RDs, REs, RFs, RGs, RHs, RIs, RJs, RKs, RLs, RRt, Nat.reduceLT, Nat.reduceEqDiff, Nat.reduceAdd, Nat.reduceSub, RXa, RXb, RXc, methR, methT, mks_o, RSl, RSr, RSm, RSx, *])
        | (simp only [Option.some.injEq, Prod.mk.injEq] at h
           obtain ⟨rfl, rfl⟩ := h
           simp (disch := first | decide | omega | assumption | exact isS_of (by assumption) | exact ixok_of (by assumption) (by omega) | exact slOk_of (by assumption) | exact bufOk_of (by assumption) (by omega) | exact ixok_ofR (by assumption) (by omega) | exact slOk_ofR (by assumption) | exact lenOk_of (by assumption) (by omega) | exact ixok_of8 (by assumption) (by omega) | fail) only [W10x0, loop_unf, loopK_N, loopK_E, loopK_R, RAs, RBs, RCs, RDs, REs, RFs, RGs, RHs, RIs, RJs, RKs, RLs, RRt, Nat.reduceLT, Nat.reduceEqDiff, Nat.reduceAdd, Nat.reduceSub, RXa, RXb, RXc, methR, methT, mks_o, RSl, RSr, RSm, RSx, *])

attribute [local irreducible] trIni
/-- ticketlinelaw32.TicketRaces -/
def trK (O : Mo) : Option (AV × Mo) :=
  match known32S [] O with
  | some (.bool d, Oa) => some (.bool d, Oa)
  | _ => none
def tracesS : Sp := fun args O =>
  match args with
  | [.int .u8 T, .int .u8 mo, pv] =>
    if 0 ≤ T ∧ T ≤ 255 ∧ 0 ≤ mo ∧ mo ≤ 255 then
      match rd8 (O ++ [.arr [.int .u8 T]] ++ [.arr [.int .u8 mo]]) pv with
      | some pl =>
        if T < 1 then trK (O ++ [.arr [.int .u8 T]] ++ [.arr [.int .u8 mo]])
        else if 6 < T then trK (O ++ [.arr [.int .u8 T]] ++ [.arr [.int .u8 mo]])
        else if 4 < mo then trK (O ++ [.arr [.int .u8 T]] ++ [.arr [.int .u8 mo]])
        else if 60 < (pl.length : Int) then trK (O ++ [.arr [.int .u8 T]] ++ [.arr [.int .u8 mo]])
        else
          match formatS [.agg [.int .i64 1, .int .i64 T]] (O ++ [.arr [.int .u8 T]] ++ [.arr [.int .u8 mo]] ++ [.arr [.int .i64 1, .int .i64 T]]) with
          | some (.tup [.ref 0 km 0, .int .i64 e], Oa) =>
            if e = 0 then
              match Oa[O.length]? with
              | some (.arr [.int .u8 T2]) =>
                if T2 = T then
                  trIni (Oa ++ [ABlk.arr [.ref 0 km 0]] ++ [ABlk.buf 1 (repCells [.int .i64 0] T.toNat)] ++ [ABlk.arr [.bref 0 (Oa ++ [ABlk.arr [.ref 0 km 0]]).length 0 T.toNat T.toNat]] ++ [ABlk.buf 1 (repCells [.nilp] T.toNat)]).length (Oa ++ [ABlk.arr [.ref 0 km 0]] ++ [ABlk.buf 1 (repCells [.int .i64 0] T.toNat)]).length (O ++ [ABlk.arr [.int .u8 T]] ++ [ABlk.arr [.int .u8 mo]]).length Oa.length (Oa ++ [ABlk.arr [.ref 0 km 0]] ++ [ABlk.buf 1 (repCells [.int .i64 0] T.toNat)] ++ [ABlk.arr [.bref 0 (Oa ++ [ABlk.arr [.ref 0 km 0]]).length 0 T.toNat T.toNat]] ++ [ABlk.buf 1 (repCells [.nilp] T.toNat)] ++ [ABlk.arr [.bref 0 (Oa ++ [ABlk.arr [.ref 0 km 0]] ++ [ABlk.buf 1 (repCells [.int .i64 0] T.toNat)] ++ [ABlk.arr [.bref 0 (Oa ++ [ABlk.arr [.ref 0 km 0]]).length 0 T.toNat T.toNat]]).length 0 T.toNat T.toNat]] ++ [ABlk.map []]).length O.length (O ++ [ABlk.arr [.int .u8 T]]).length pv (T.toNat : Int) 50 0 (Oa ++ [ABlk.arr [.ref 0 km 0]] ++ [ABlk.buf 1 (repCells [.int .i64 0] T.toNat)] ++ [ABlk.arr [.bref 0 (Oa ++ [ABlk.arr [.ref 0 km 0]]).length 0 T.toNat T.toNat]] ++ [ABlk.buf 1 (repCells [.nilp] T.toNat)] ++ [ABlk.arr [.bref 0 (Oa ++ [ABlk.arr [.ref 0 km 0]] ++ [ABlk.buf 1 (repCells [.int .i64 0] T.toNat)] ++ [ABlk.arr [.bref 0 (Oa ++ [ABlk.arr [.ref 0 km 0]]).length 0 T.toNat T.toNat]]).length 0 T.toNat T.toNat]] ++ [ABlk.map []] ++ [ABlk.arr [.map 0 (Oa ++ [ABlk.arr [.ref 0 km 0]] ++ [ABlk.buf 1 (repCells [.int .i64 0] T.toNat)] ++ [ABlk.arr [.bref 0 (Oa ++ [ABlk.arr [.ref 0 km 0]]).length 0 T.toNat T.toNat]] ++ [ABlk.buf 1 (repCells [.nilp] T.toNat)] ++ [ABlk.arr [.bref 0 (Oa ++ [ABlk.arr [.ref 0 km 0]] ++ [ABlk.buf 1 (repCells [.int .i64 0] T.toNat)] ++ [ABlk.arr [.bref 0 (Oa ++ [ABlk.arr [.ref 0 km 0]]).length 0 T.toNat T.toNat]]).length 0 T.toNat T.toNat]]).length]])
                else none
              | _ => none
            else none
          | _ => none
      | _ => none
    else none
  | _ => none
theorem tracesS_ok : SpOk Tryz.prog 10 tracesS := by
  intro args O r O' h S
  unfold tracesS at h
  repeat' (split at h)
  all_goals first | (cases h; done) | skip
  all_goals try unfold trK at h
  all_goals try (repeat' (split at h))
  all_goals first | (cases h; done) | skip
  all_goals first | (cases h; done) | skip
  all_goals
    try simp only [acc, accZ, errA] at *
    first
      | (simp only [Option.some.injEq, Prod.mk.injEq] at h
         obtain ⟨rfl, rfl⟩ := h
         refine bodyA (tabC_cons known32S_ok (tabC_cons formatS_ok (tabC_cons oneS_ok (tabC_nil _)))) (n := 100000) F10_code ?_
         simp (disch := first | decide | omega | assumption | exact isS_of (by assumption) | exact ixok_of (by assumption) (by omega) | exact slOk_of (by assumption) | exact bufOk_of (by assumption) (by omega) | exact ixok_ofR (by assumption) (by omega) | exact slOk_ofR (by assumption) | exact lenOk_of (by assumption) (by omega) | exact ixok_of8 (by assumption) (by omega) | fail) only [F10, RAs, RBs, RCs, RDs, REs, RFs, RGs, RHs, RIs, RJs, RKs, RLs, RRt, Nat.reduceLT, Nat.reduceEqDiff, Nat.reduceAdd, Nat.reduceSub, RXa, RXb, RXc, methR, methT, mks_o, RSl, RSr, RSm, RSx, acc, accZ, errA, *])
      | (refine bodyA (tabC_cons known32S_ok (tabC_cons formatS_ok (tabC_cons oneS_ok (tabC_nil _)))) (n := 100000) F10_code ?_
         simp (disch := first | decide | omega | assumption | exact isS_of (by assumption) | exact ixok_of (by assumption) (by omega) | exact slOk_of (by assumption) | exact bufOk_of (by assumption) (by omega) | exact ixok_ofR (by assumption) (by omega) | exact slOk_ofR (by assumption) | exact lenOk_of (by assumption) (by omega) | exact ixok_of8 (by assumption) (by omega) | fail) only [F10, RAs, RBs, RCs, RDs, REs, RFs, RGs, RHs, RIs, RJs, RKs, RLs, RRt, Nat.reduceLT, Nat.reduceEqDiff, Nat.reduceAdd, Nat.reduceSub, RXa, RXb, RXc, methR, methT, mks_o, RSl, RSr, RSm, RSx, e_loop, acc, accZ, errA, *]
         refine (fin_skip _ _ _ _ _).trans ?_
         refine trIni_loop _ _ _ _ _ _ _ _ _ (by omega) (by omega) _ _ _ _ _ _ _ h (by omega) ?_ ?_ ?_ ?_ ?_ ?_ ?_ ?_ ?_ ?_
         all_goals simp (disch := first | decide | omega | assumption | exact isS_of (by assumption) | exact ixok_of (by assumption) (by omega) | exact slOk_of (by assumption) | exact bufOk_of (by assumption) (by omega) | exact ixok_ofR (by assumption) (by omega) | exact slOk_ofR (by assumption) | exact lenOk_of (by assumption) (by omega) | exact ixok_of8 (by assumption) (by omega) | fail) only [RAs, RBs, RCs, RDs, REs, RFs, RGs, RHs, RIs, RJs, RKs, RLs, RRt, Nat.reduceLT, Nat.reduceEqDiff, Nat.reduceAdd, Nat.reduceSub, RXa, RXb, RXc, methR, methT, mks_o, RSl, RSr, RSm, RSx, *])

end Den

/- TicketRaces: beginnings, progress, ranks, counts. -/
set_option maxRecDepth 100000
set_option maxHeartbeats 1000000
set_option linter.unusedSimpArgs false
set_option linter.unusedVariables false
namespace Den
open Go Go.Proofs

def RDx (b t : Int) (W : List Int) (g : Int) (D : Int → Option DP) : Prop := ∃ q f c, RD b t W q f g c D
section
variable {b t g c i : Int} {W : List Int} {q : List Int} {f : Int → LS} {D : Int → Option DP}
theorem RD.start (h : RD b t W q f g c D) (h0 : 0 ≤ i) (h1 : i < t) (hD : D i = none) : RD b t W q (updL f i .a1) g c (upD D i (some dp0)) := by
  have hf : f i = .out := by
    obtain ⟨x, hT, _⟩ := h.th i h0 h1
    rw [hD] at hT
    generalize f i = s at hT
    cases hT; rfl
  have hn : ∀ k, TD g (D k) (f k) 1 → k ≠ i := fun k hk e => by
    subst e; rw [hD] at hk
    generalize f k = s at hk
    generalize hx : (1 : Int) = x at hk
    cases hk; omega
  exact { lk := h.lk.start h0 h1 hf
          th := fun j j0 j1 => by
            by_cases hj : j = i
            · subst hj; rw [updL_self, upD_self]
              have := TD.d1 (g := g) (p := dp0) rfl rfl (by simp [dp0]) rfl rfl rfl
              exact ⟨0, this, fun e => by omega⟩
            · rw [updL_ne _ _ hj, upD_ne _ _ hj]; exact h.th j j0 j1
          w7 := h.w7
          g0 := h.g0
          c0 := by
            rcases h.c0 with e | ⟨e, k, k0, k1, hk⟩
            · exact Or.inl e
            · have := hn k hk
              exact Or.inr ⟨e, k, k0, k1, by rw [updL_ne _ _ this, upD_ne _ _ this]; exact hk⟩ }
theorem RD.live (hg : g ≤ 100000) (h : RD b t W q f g c D) (hx : ∃ j, 0 ≤ j ∧ j < t ∧ D j ≠ none) : ∃ j p, 0 ≤ j ∧ j < t ∧ D j = some p ∧ ∀ p' W' w, drawP b t j p W = some (p', W', w) → w = false := by
  have key : ∃ j, 0 ≤ j ∧ j < t ∧ D j ≠ none ∧ ¬ (f j = .a5 ∧ W[wtL b j]? = some 1) ∧ ¬ (f j = .r3 ∧ W[nxL b j]? = some 0) := by
    by_cases hq : q = []
    · subst hq
      obtain ⟨j, j0, j1, hj⟩ := hx
      have := h.lk.ou j j0 j1 (by simp)
      refine ⟨j, j0, j1, hj, fun e => ?_, fun e => ?_⟩ <;> rw [e.1] at this <;> exact this
    · obtain ⟨j, j0, j1, e1, e2, e3⟩ := h.lk.live hq
      refine ⟨j, j0, j1, fun e => ?_, e2, e3⟩
      obtain ⟨x, hT, _⟩ := h.th j j0 j1
      rw [e] at hT
      generalize f j = s at hT e1
      cases hT; exact e1 rfl
  obtain ⟨j, j0, j1, hj, n1, n2⟩ := key
  cases hD : D j with
  | none => exact absurd hD hj
  | some p =>
    refine ⟨j, p, j0, j1, hD, fun p' W' w e => ?_⟩
    obtain ⟨p2, W2, w2, q', f', e2, _, hw⟩ := rd_step hg h j0 j1 hD
    rw [e] at e2; cases e2
    cases w with
    | false => rfl
    | true =>
      rcases hw rfl with h | h
      · exact absurd h n1
      · exact absurd h n2
end
theorem RDx.start {b t g i : Int} {W : List Int} {D : Int → Option DP} (h : RDx b t W g D) (h0 : 0 ≤ i) (h1 : i < t) (hD : D i = none) : RDx b t W g (upD D i (some dp0)) := by
  obtain ⟨q, f, c, h⟩ := h
  exact ⟨q, _, c, h.start h0 h1 hD⟩
theorem RDx.alive {b t g i : Int} {W : List Int} {D : Int → Option DP} (h : RDx b t W g D) (h0 : 0 ≤ i) (h1 : i < t) {p : DP} (hD : D i = some p) : p.st ≠ 0 ∧ p.st ≠ 5 := by
  obtain ⟨q, f, c, h⟩ := h
  obtain ⟨x, hT, _⟩ := h.th i h0 h1
  rw [hD] at hT
  generalize f i = s at hT
  cases hT <;> omega
theorem RDx.step {b t g i : Int} {W : List Int} {D : Int → Option DP} (hg : g ≤ 100000) (h : RDx b t W g D) (h0 : 0 ≤ i) (h1 : i < t) {p : DP} (hD : D i = some p) :
    ∃ p' W' w, drawP b t i p W = some (p', W', w) ∧ ((p'.st ≠ 5 ∧ RDx b t W' g (upD D i (some p'))) ∨ (p'.st = 5 ∧ p'.nu = g + 1 ∧ RDx b t W' (g + 1) (upD D i none))) := by
  obtain ⟨q, f, c, h⟩ := h
  obtain ⟨p', W', w, q', f', e, hr, _⟩ := rd_step hg h h0 h1 hD
  refine ⟨p', W', w, e, ?_⟩
  rcases hr with ⟨a, c', hr⟩ | ⟨a, a2, hr⟩
  · exact Or.inl ⟨a, q', f', c', hr⟩
  · exact Or.inr ⟨a, a2, q', f', 0, hr⟩
theorem RDx.live {b t g : Int} {W : List Int} {D : Int → Option DP} (hg : g ≤ 100000) (h : RDx b t W g D) (hx : ∃ j, 0 ≤ j ∧ j < t ∧ D j ≠ none) : ∃ j p, 0 ≤ j ∧ j < t ∧ D j = some p ∧ ∀ p' W' w, drawP b t j p W = some (p', W', w) → w = false := by
  obtain ⟨q, f, c, h⟩ := h
  exact h.live hg hx
theorem rds_init {b t : Int} {W : List Int} (hb : 16 ≤ b) (hl : b + t * 6 ≤ W.length) (h5 : W[5]? = some 0) (h7 : W[7]? = some 0) : RDx b t W 0 (fun _ => none) :=
  ⟨[], fun _ => .out, 0, { lk := ⟨hb, by omega, by omega, hl, List.nodup_nil, fun i hi => by simp at hi, h5, fun _ _ _ _ => trivial, fun _ _ e => by simp at e, trivial⟩
                           th := fun i _ _ => ⟨0, .no, fun e => by omega⟩
                           w7 := h7
                           g0 := by omega
                           c0 := Or.inl rfl }⟩

/-! Ranks -/
theorem acqP_rkT {b t lk nd pc ot pc' ot' : Int} {en w : Bool} {W W' : List Int} (h : acqP b t lk nd pc ot W = some (pc', ot', en, W', w)) : (1 ≤ pc ∧ pc ≤ 5) ∧ (w = true → pc' = pc ∧ ot' = ot ∧ en = false ∧ W' = W) ∧ (w = false → en = true ∨ (pc < pc' ∧ pc' ≤ 5)) := by
  unfold acqP at h
  split at h
  · obtain ⟨x, _, h⟩ := Option.map_eq_some_iff.1 h
    cases h; exact ⟨by omega, by simp, fun _ => by omega⟩
  split at h
  · obtain ⟨x, _, h⟩ := Option.map_eq_some_iff.1 h
    cases h; exact ⟨by omega, by simp, fun _ => by omega⟩
  split at h
  · obtain ⟨x, _, h⟩ := Option.map_eq_some_iff.1 h
    split at h
    · cases h; exact ⟨by omega, by simp, fun _ => by simp⟩
    · cases h; exact ⟨by omega, by simp, fun _ => by omega⟩
  split at h
  · split at h
    · obtain ⟨x, _, h⟩ := Option.map_eq_some_iff.1 h
      cases h; exact ⟨by omega, by simp, fun _ => by omega⟩
    · cases h
  split at h
  · obtain ⟨x, _, h⟩ := Option.map_eq_some_iff.1 h
    split at h
    · cases h; exact ⟨by omega, by simp, fun _ => by simp⟩
    · cases h; exact ⟨by omega, fun _ => ⟨by omega, rfl, rfl, rfl⟩, fun hh => by simp at hh⟩
  · cases h
theorem relP_rkT {b t lk nd pc ot pc' ot' : Int} {en w : Bool} {W W' : List Int} (h : relP b t lk nd pc ot W = some (pc', ot', en, W', w)) : (1 ≤ pc ∧ pc ≤ 4) ∧ (w = true → pc' = pc ∧ ot' = ot ∧ en = false ∧ W' = W) ∧ (w = false → en = true ∨ (pc < pc' ∧ pc' ≤ 4)) := by
  unfold relP at h
  split at h
  · obtain ⟨x, _, h⟩ := Option.map_eq_some_iff.1 h
    split at h
    · cases h; exact ⟨by omega, by simp, fun _ => by omega⟩
    · cases h; exact ⟨by omega, by simp, fun _ => by omega⟩
  split at h
  · obtain ⟨x, _, h⟩ := Option.map_eq_some_iff.1 h
    split at h
    · cases h; exact ⟨by omega, fun _ => ⟨by omega, rfl, rfl, rfl⟩, fun hh => by simp at hh⟩
    · cases h; exact ⟨by omega, by simp, fun _ => by omega⟩
  split at h
  · obtain ⟨x, _, h⟩ := Option.map_eq_some_iff.1 h
    split at h
    · cases h; exact ⟨by omega, by simp, fun _ => by simp⟩
    · cases h; exact ⟨by omega, by simp, fun _ => by omega⟩
  split at h
  · split at h
    · obtain ⟨x, _, h⟩ := Option.map_eq_some_iff.1 h
      cases h; exact ⟨by omega, by simp, fun _ => by simp⟩
    · cases h
  · cases h
def rkD (p : DP) : Nat := if p.st = 1 then (25 - p.pa).toNat + (7 - p.pr).toNat else if p.st = 2 then (7 - p.pr).toNat + 2 else if p.st = 3 then (7 - p.pr).toNat + 1 else if p.st = 4 then (7 - p.pr).toNat else 0
theorem dp_eq1 {p : DP} (h1 : p.st = 1) (h2 : p.ea = false) : ({ p with st := if false = true then 2 else 1, pa := p.pa, oa := p.oa, ea := false } : DP) = p := by
  cases p; simp at h1 h2 ⊢; exact ⟨h1.symm, h2⟩
theorem dp_eq4 {p : DP} (h1 : p.st = 4) (h2 : p.er = false) : ({ p with st := if false = true then 5 else 4, pr := p.pr, or := p.or, er := false } : DP) = p := by
  cases p; simp at h1 h2 ⊢; exact ⟨h1.symm, h2⟩
theorem drawP_rk {b t th : Int} {p p' : DP} {W W' : List Int} {w : Bool} (h : drawP b t th p W = some (p', W', w)) : (w = true → p' = p ∧ W' = W) ∧ (w = false → rkD p' < rkD p) := by
  unfold drawP at h
  by_cases e : p.st = 1
  · rw [if_pos e] at h
    split at h
    · rename_i e2
      split at h
      · rename_i pc' ot' en' W1 w1 hq
        obtain ⟨r1, r2, r3⟩ := acqP_rkT hq
        cases h
        constructor
        · intro hw
          obtain ⟨e3, e4, e5, e6⟩ := r2 hw
          rw [e3, e4, e5, e6]; exact ⟨dp_eq1 e e2, rfl⟩
        · intro hw
          rcases r3 hw with e3 | e3
          · rw [e3]; simp [rkD, e]; omega
          · cases en' <;> simp [rkD, e] <;> omega
      · cases h
    · cases h
  rw [if_neg e] at h; clear e
  by_cases e : p.st = 2
  · rw [if_pos e] at h
    split at h
    · split at h
      · cases h; simp [rkD, e]
      · cases h
    · cases h
  rw [if_neg e] at h; clear e
  by_cases e : p.st = 3
  · rw [if_pos e] at h
    split at h
    · cases h; simp [rkD, e]
    · cases h
  rw [if_neg e] at h; clear e
  by_cases e : p.st = 4
  · rw [if_pos e] at h
    split at h
    · rename_i e2
      split at h
      · rename_i pc' ot' en' W1 w1 hq
        obtain ⟨r1, r2, r3⟩ := relP_rkT hq
        cases h
        constructor
        · intro hw
          obtain ⟨e3, e4, e5, e6⟩ := r2 hw
          rw [e3, e4, e5, e6]; exact ⟨dp_eq4 e e2, rfl⟩
        · intro hw
          rcases r3 hw with e3 | e3
          · rw [e3]; simp [rkD, e]; omega
          · cases en' <;> simp [rkD, e] <;> omega
      · cases h
    · cases h
  rw [if_neg e] at h; cases h
def rkO : Option DP → Nat
  | none => 0
  | some p => rkD p
def onO : Option DP → Int
  | none => 0
  | some _ => 1
def updI (f : Int → Int) (i : Int) (s : Int) : Int → Int := fun j => if j = i then s else f j
theorem updI_self (f : Int → Int) (i : Int) (s : Int) : updI f i s i = s := by simp [updI]
theorem updI_ne (f : Int → Int) {i j : Int} (s : Int) (h : j ≠ i) : updI f i s j = f j := by simp [updI, h]
theorem updI_id (f : Int → Int) (i : Int) : updI f i (f i) = f := by
  funext j
  by_cases hj : j = i
  · subst hj; rw [updI_self]
  · rw [updI_ne _ _ hj]
theorem upD_id (f : Int → Option DP) (i : Int) : upD f i (f i) = f := by
  funext j
  by_cases hj : j = i
  · subst hj; rw [upD_self]
  · rw [upD_ne _ _ hj]
theorem upD_upD (f : Int → Option DP) (i : Int) (a b : Option DP) : upD (upD f i a) i b = upD f i b := by
  funext j
  by_cases hj : j = i
  · subst hj; rw [upD_self, upD_self]
  · rw [upD_ne _ _ hj, upD_ne _ _ hj, upD_ne _ _ hj]
def rkT (D : Int → Option DP) (L : Int → Int) : Nat → Nat
  | 0 => 0
  | n + 1 => rkT D L n + rkO (D n) + (L n).toNat * 40
def cnT (D : Int → Option DP) (L : Int → Int) : Nat → Int
  | 0 => 0
  | n + 1 => cnT D L n + onO (D n) + L n
theorem rkT_ge (D : Int → Option DP) (L : Int → Int) {j : Nat} (d : Option DP) (x : Int) : ∀ (n : Nat), n ≤ j → rkT (upD D j d) (updI L j x) n = rkT D L n
  | 0, _ => rfl
  | n + 1, h => by
    simp only [rkT]
    rw [rkT_ge D L (j := j) d x n (by omega), upD_ne D d (show ((n : Nat) : Int) ≠ (j : Int) by omega), updI_ne L x (show ((n : Nat) : Int) ≠ (j : Int) by omega)]
theorem rkT_up (D : Int → Option DP) (L : Int → Int) {j : Nat} (d : Option DP) (x : Int) : ∀ (n : Nat), j < n → rkT (upD D j d) (updI L j x) n + (rkO (D j) + (L j).toNat * 40) = rkT D L n + (rkO d + x.toNat * 40)
  | 0, h => by omega
  | n + 1, h => by
    simp only [rkT]
    by_cases hj : j = n
    · subst hj
      rw [rkT_ge D L d x j (Nat.le_refl _), upD_self, updI_self]; omega
    · have := rkT_up D L (j := j) d x n (by omega)
      rw [upD_ne D d (show ((n : Nat) : Int) ≠ (j : Int) by omega), updI_ne L x (show ((n : Nat) : Int) ≠ (j : Int) by omega)]; omega
theorem cnT_ge (D : Int → Option DP) (L : Int → Int) {j : Nat} (d : Option DP) (x : Int) : ∀ (n : Nat), n ≤ j → cnT (upD D j d) (updI L j x) n = cnT D L n
  | 0, _ => rfl
  | n + 1, h => by
    simp only [cnT]
    rw [cnT_ge D L (j := j) d x n (by omega), upD_ne D d (show ((n : Nat) : Int) ≠ (j : Int) by omega), updI_ne L x (show ((n : Nat) : Int) ≠ (j : Int) by omega)]
theorem cnT_up (D : Int → Option DP) (L : Int → Int) {j : Nat} (d : Option DP) (x : Int) : ∀ (n : Nat), j < n → cnT (upD D j d) (updI L j x) n + (onO (D j) + L j) = cnT D L n + (onO d + x)
  | 0, h => by omega
  | n + 1, h => by
    simp only [cnT]
    by_cases hj : j = n
    · subst hj
      rw [cnT_ge D L d x j (Nat.le_refl _), upD_self, updI_self]; omega
    · have := cnT_up D L (j := j) d x n (by omega)
      rw [upD_ne D d (show ((n : Nat) : Int) ≠ (j : Int) by omega), updI_ne L x (show ((n : Nat) : Int) ≠ (j : Int) by omega)]; omega
theorem cnT_pos {D : Int → Option DP} {L : Int → Int} : ∀ (n : Nat), (∀ i : Nat, i < n → 0 ≤ L i) → 0 ≤ cnT D L n
  | 0, _ => by simp [cnT]
  | n + 1, h => by
    have := cnT_pos (D := D) n (fun i hi => h i (by omega))
    have h2 := h n (by omega)
    have h3 : 0 ≤ onO (D n) := by cases D n <;> simp [onO]
    simp only [cnT]; omega
theorem cnT_ge1 {D : Int → Option DP} {L : Int → Int} : ∀ (n : Nat), (∀ i : Nat, i < n → 0 ≤ L i) → ∀ j : Nat, j < n → onO (D j) + L j ≤ cnT D L n
  | 0, _, j, hj => by omega
  | n + 1, h, j, hj => by
    simp only [cnT]
    have h2 := h n (by omega)
    have h3 : 0 ≤ onO (D n) := by cases D n <;> simp [onO]
    by_cases hjn : j = n
    · subst hjn
      have := cnT_pos (D := D) j (fun i hi => h i (by omega))
      omega
    · have := cnT_ge1 n (fun i hi => h i (by omega)) j (by omega) (D := D)
      omega
theorem cnT_0 {D : Int → Option DP} {L : Int → Int} : ∀ (n : Nat), (∀ i : Nat, i < n → D i = none ∧ L i = 0) → cnT D L n = 0
  | 0, _ => rfl
  | n + 1, h => by
    have := h n (by omega)
    simp only [cnT, cnT_0 n (fun i hi => h i (by omega)), this.1, this.2, onO]; omega
theorem cnT_c {mo : Int} : ∀ (n : Nat), cnT (fun _ => none) (fun _ => mo) n = n * mo
  | 0 => by simp [cnT]
  | n + 1 => by
    simp only [cnT, cnT_c n, onO]
    rw [show ((n + 1 : Nat) : Int) = (n : Int) + 1 by omega, Int.add_mul]; omega
theorem rkT_c {mo : Int} (h1 : mo ≤ 4) : ∀ (n : Nat), rkT (fun _ => none) (fun _ => mo) n ≤ n * 160
  | 0 => by simp [rkT]
  | n + 1 => by
    have := rkT_c (mo := mo) h1 n
    simp only [rkT, rkO]; omega
end Den

/- TicketRaces: the closure's steps in the objects. -/
set_option maxRecDepth 100000
set_option maxHeartbeats 1000000
set_option linter.unusedSimpArgs false
set_option linter.unusedVariables false
namespace Den
open Go Go.Proofs

def noAr (O : Mo) (l : List Nat) : Prop := ∀ x ∈ l, ∀ cs, O[x]? ≠ some (.arr cs)
theorem Dn.keep {O O' : Mo} {k ka kr kn : Nat} {b t th : Int} {p : DP} {l : List Nat} (h : Dn O k ka kr kn b t th p) (g : Ag O O' l) (hn : noAr O l) : Dn O' k ka kr kn b t th p :=
  h.ag g (fun hx => hn _ hx _ h.K) (fun hx => hn _ hx _ h.A) (fun hx => hn _ hx _ h.R) (fun hx => hn _ hx _ h.N.o)
theorem Dn.other {O O' : Mo} {kd ka kr kn kd2 ka2 kr2 kn2 km kb : Nat} {b t i j : Int} {p p2 : DP} {W : List Int} (h : Dn O kd ka kr kn b t i p) (h2 : Dn O kd2 ka2 kr2 kn2 b t j p2) (hne : i ≠ j) (m : MemW O km kb W) (g : Ag O O' [kb, ka2, kr2, kd2]) : Dn O' kd ka kr kn b t i p := by
  have a1 : ka ≠ ka2 := ne_get h.A h2.A (by simp [subB]; omega)
  have a2 : ka ≠ kr2 := ne_get h.A h2.R (by simp [subB]; omega)
  have a3 : ka ≠ kb := ne_get h.A m.b (by simp [subB])
  have a4 : ka ≠ kd2 := ne_get h.A h2.K (by simp [subB, dwB])
  have r1 : kr ≠ ka2 := ne_get h.R h2.A (by simp [subB]; omega)
  have r2 : kr ≠ kr2 := ne_get h.R h2.R (by simp [subB]; omega)
  have r3 : kr ≠ kb := ne_get h.R m.b (by simp [subB])
  have r4 : kr ≠ kd2 := ne_get h.R h2.K (by simp [subB, dwB])
  have d1 : kd ≠ ka2 := ne_get h.K h2.A (by simp [subB, dwB])
  have d2 : kd ≠ kr2 := ne_get h.K h2.R (by simp [subB, dwB])
  have d3 : kd ≠ kb := ne_get h.K m.b (by simp [dwB])
  have d4 : kd ≠ kd2 := ne_get h.K h2.K (by unfold dwB; intro e; simp at e; omega)
  have n1 : kn ≠ ka2 := ne_get h.N.o h2.A (by simp [subB])
  have n2 : kn ≠ kr2 := ne_get h.N.o h2.R (by simp [subB])
  have n3 : kn ≠ kb := ne_get h.N.o m.b (by simp)
  have n4 : kn ≠ kd2 := ne_get h.N.o h2.K (by simp [dwB])
  exact h.ag g (by simp [d1, d2, d3, d4]) (by simp [a1, a2, a3, a4]) (by simp [r1, r2, r3, r4]) (by simp [n1, n2, n3, n4])

/-- The law's variables. -/
structure Ky where
  k1 : Nat
  k2 : Nat
  k3 : Nat
  k4 : Nat
  k5 : Nat
  k6 : Nat
  k7 : Nat
  km : Nat
  kb : Nat
  ka : Nat
  kl : Nat
  kg : Nat
structure TRO (O : Mo) (k : Ky) (T mo : Int) (cs ls : List AV) (W l : List Int) : Prop where
  M : MemW O k.km k.kb W
  o1 : O[k.k1]? = some (.arr [.bref 0 k.ka 0 cs.length cs.length])
  oa : O[k.ka]? = some (.buf 1 cs)
  o2 : O[k.k2]? = some (.arr [.bref 0 k.kl 0 ls.length ls.length])
  ol : O[k.kl]? = some (.buf 1 ls)
  o3 : O[k.k3]? = some (.arr [.int .i64 1, .int .i64 T])
  o4 : O[k.k4]? = some (.arr [.ref 0 k.km 0])
  o5 : O[k.k5]? = some (.arr [.map 0 k.kg])
  og : O[k.kg]? = some (.map (encB l))
  o6 : O[k.k6]? = some (.arr [.int .u8 T])
  o7 : O[k.k7]? = some (.arr [.int .u8 mo])
  nal : k.ka ≠ k.kl
  c1 : (cs.length : Int) = T
  l1 : (ls.length : Int) = T
  T6 : 1 ≤ T ∧ T ≤ 6
  W7 : 100 ≤ W.length
section
variable {O O' : Mo} {k : Ky} {T mo : Int} {cs ls : List AV} {W l : List Int}
theorem buf_ne {cs ds : List AV} (h : cs.length ≠ ds.length) : ABlk.buf 1 cs ≠ .buf 1 ds := fun e => by
  cases e; exact h rfl
theorem TRO.fresh (h : TRO O k T mo cs ls W l) (g : Ag O O' []) : TRO O' k T mo cs ls W l :=
  ⟨h.M.ag g (by simp) (by simp), g.get h.o1 (by simp), g.get h.oa (by simp), g.get h.o2 (by simp), g.get h.ol (by simp), g.get h.o3 (by simp), g.get h.o4 (by simp), g.get h.o5 (by simp), g.get h.og (by simp), g.get h.o6 (by simp), g.get h.o7 (by simp), h.nal, h.c1, h.l1, h.T6, h.W7⟩
theorem TRO.run (h : TRO O k T mo cs ls W l) {kd ka kr kn : Nat} {b t i : Int} {p : DP} {W' : List Int} (d : Dn O kd ka kr kn b t i p) (g : Ag O O' [k.kb, ka, kr, kd]) (m : MemW O' k.km k.kb W') (hl : W'.length = W.length) : TRO O' k T mo cs ls W' l := by
  have T6 := h.T6
  have W7 := h.W7
  have c1 := h.c1
  have l1 := h.l1
  have aux : ∀ {x : Nat} {c : ABlk}, O[x]? = some c → (c ≠ .buf 1 (wds W)) → (∀ a b c2 d2 e f, c ≠ .arr [a, b, c2, d2, e, f]) → (∀ a b c2 d2, c ≠ .arr [a, b, c2, d2]) → O'[x]? = some c := fun {x c} hx e1 e2 e3 => by
    have x1 : x ≠ k.kb := ne_get hx h.M.b e1
    have x2 : x ≠ ka := ne_get hx d.A (by unfold subB; exact e2 _ _ _ _ _ _)
    have x3 : x ≠ kr := ne_get hx d.R (by unfold subB; exact e2 _ _ _ _ _ _)
    have x4 : x ≠ kd := ne_get hx d.K (by unfold dwB; exact e3 _ _ _ _)
    exact g.get hx (by simp [x1, x2, x3, x4])
  exact ⟨m, aux h.o1 (by simp) (by simp) (by simp), aux h.oa (buf_ne (by rw [wds_len]; omega)) (by simp) (by simp), aux h.o2 (by simp) (by simp) (by simp), aux h.ol (buf_ne (by rw [wds_len]; omega)) (by simp) (by simp), aux h.o3 (by simp) (by simp) (by simp), aux h.o4 (by simp) (by simp) (by simp), aux h.o5 (by simp) (by simp) (by simp), aux h.og (by simp) (by simp) (by simp), aux h.o6 (by simp) (by simp) (by simp), aux h.o7 (by simp) (by simp) (by simp), h.nal, c1, l1, T6, by omega⟩
theorem TRO.setc (h : TRO O k T mo cs ls W l) (i : Nat) (v : AV) : TRO (O.set k.ka (.buf 1 (cs.set i v))) k T mo (cs.set i v) ls W l := by
  have T6 := h.T6
  have W7 := h.W7
  have c1 := h.c1
  have g : Ag O (O.set k.ka (.buf 1 (cs.set i v))) [k.ka] := Ag.set _ _ (by simp)
  have n1 : k.kb ≠ k.ka := ne_get h.M.b h.oa (buf_ne (by rw [wds_len]; omega))
  have aux : ∀ {x : Nat} {c : ABlk}, O[x]? = some c → c ≠ .buf 1 cs → (O.set k.ka (.buf 1 (cs.set i v)))[x]? = some c := fun {x c} hx e => g.get hx (by simpa using ne_get hx h.oa e)
  exact ⟨h.M.ag g (by simpa using ne_get h.M.m h.oa (by simp)) (by simpa using n1), by rw [List.length_set]; exact aux h.o1 (by simp), setS h.oa, aux h.o2 (by simp), g.get h.ol (by simpa using h.nal.symm), aux h.o3 (by simp), aux h.o4 (by simp), aux h.o5 (by simp), aux h.og (by simp), aux h.o6 (by simp), aux h.o7 (by simp), h.nal, by rw [List.length_set]; exact h.c1, h.l1, h.T6, h.W7⟩
theorem TRO.setl (h : TRO O k T mo cs ls W l) (i : Nat) (v : AV) : TRO (O.set k.kl (.buf 1 (ls.set i v))) k T mo cs (ls.set i v) W l := by
  have T6 := h.T6
  have W7 := h.W7
  have l1 := h.l1
  have g : Ag O (O.set k.kl (.buf 1 (ls.set i v))) [k.kl] := Ag.set _ _ (by simp)
  have n1 : k.kb ≠ k.kl := ne_get h.M.b h.ol (buf_ne (by rw [wds_len]; omega))
  have aux : ∀ {x : Nat} {c : ABlk}, O[x]? = some c → c ≠ .buf 1 ls → (O.set k.kl (.buf 1 (ls.set i v)))[x]? = some c := fun {x c} hx e => g.get hx (by simpa using ne_get hx h.ol e)
  exact ⟨h.M.ag g (by simpa using ne_get h.M.m h.ol (by simp)) (by simpa using n1), aux h.o1 (by simp), g.get h.oa (by simpa using h.nal), by rw [List.length_set]; exact aux h.o2 (by simp), setS h.ol, aux h.o3 (by simp), aux h.o4 (by simp), aux h.o5 (by simp), aux h.og (by simp), aux h.o6 (by simp), aux h.o7 (by simp), h.nal, h.c1, by rw [List.length_set]; exact h.l1, h.T6, h.W7⟩
theorem TRO.setm (h : TRO O k T mo cs ls W l) (l' : List Int) : TRO (O.set k.kg (.map (encB l'))) k T mo cs ls W l' := by
  have g : Ag O (O.set k.kg (.map (encB l'))) [k.kg] := Ag.set _ _ (by simp)
  have aux : ∀ {x : Nat} {c : ABlk}, O[x]? = some c → c ≠ .map (encB l) → (O.set k.kg (.map (encB l')))[x]? = some c := fun {x c} hx e => g.get hx (by simpa using ne_get hx h.og e)
  exact ⟨h.M.ag g (by simpa using ne_get h.M.m h.og (by simp)) (by simpa using ne_get h.M.b h.og (by simp)), aux h.o1 (by simp), aux h.oa (by simp), aux h.o2 (by simp), aux h.ol (by simp), aux h.o3 (by simp), aux h.o4 (by simp), aux h.o5 (by simp), setS h.og, aux h.o6 (by simp), aux h.o7 (by simp), h.nal, h.c1, h.l1, h.T6, h.W7⟩
theorem TRO.nc (h : TRO O k T mo cs ls W l) : noAr O [k.ka] := fun x hx c e => by simp at hx; subst hx; rw [h.oa] at e; cases e
theorem TRO.nl (h : TRO O k T mo cs ls W l) : noAr O [k.kl] := fun x hx c e => by simp at hx; subst hx; rw [h.ol] at e; cases e
theorem TRO.ng (h : TRO O k T mo cs ls W l) : noAr O [k.kg] := fun x hx c e => by simp at hx; subst hx; rw [h.og] at e; cases e
end
theorem noAr_nil (O : Mo) : noAr O [] := fun x hx => by simp at hx

def DO (O : Mo) (cs : List AV) (T i : Int) : Option DP → Prop
  | none => cs[i.toNat]? = some .nilp
  | some p => ∃ kd ka kr kn, cs[i.toNat]? = some (.ref 0 kd 0) ∧ Dn O kd ka kr kn (16 + 128 * 1) T i p
theorem DO.keep {O O' : Mo} {cs : List AV} {T i : Int} {d : Option DP} {l : List Nat} (h : DO O cs T i d) (g : Ag O O' l) (hn : noAr O l) : DO O' cs T i d := by
  cases d with
  | none => exact h
  | some p => obtain ⟨kd, ka, kr, kn, e, h⟩ := h; exact ⟨kd, ka, kr, kn, e, h.keep g hn⟩
theorem DO.setc {O : Mo} {cs : List AV} {T i : Int} {d : Option DP} (h : DO O cs T i d) {j : Nat} {v : AV} (hj : i.toNat ≠ j) : DO O (cs.set j v) T i d := by
  cases d with
  | none => show (cs.set j v)[i.toNat]? = _; rw [List.getElem?_set_ne (Ne.symm hj)]; exact h
  | some p => obtain ⟨kd, ka, kr, kn, e, h⟩ := h; exact ⟨kd, ka, kr, kn, by rw [List.getElem?_set_ne (Ne.symm hj)]; exact e, h⟩
structure TR (O : Mo) (k : Ky) (T mo : Int) (cs ls : List AV) (W l : List Int) (D : Int → Option DP) (L : Int → Int) (g : Int) : Prop where
  o : TRO O k T mo cs ls W l
  d : ∀ i, 0 ≤ i → i < T → DO O cs T i (D i)
  lf : ∀ i, 0 ≤ i → i < T → ls[i.toNat]? = some (.int .i64 (L i)) ∧ 0 ≤ L i ∧ L i ≤ 4
  ml : (l.length : Int) = g
  mh : ∀ x, hasB x l = true ↔ 1 ≤ x ∧ x ≤ g
  R : RDx (16 + 128 * 1) T W g D
  su : g + cnT D L T.toNat = T * mo
  mo4 : 0 ≤ mo ∧ mo ≤ 4
theorem putB_len {x : Int} : ∀ {l : List Int}, hasB x l = false → (putB x l).length = l.length + 1
  | [], _ => rfl
  | a :: l, h => by
    unfold hasB at h
    by_cases e : x = a
    · rw [if_pos e] at h; cases h
    · rw [if_neg e] at h
      simp only [putB, if_neg e, List.length_cons, putB_len h]
theorem hasB_put {x y : Int} : ∀ {l : List Int}, hasB y (putB x l) = (decide (y = x) || hasB y l)
  | [] => by by_cases e : y = x <;> simp [putB, hasB, e]
  | a :: l => by
    by_cases e : x = a
    · subst e
      simp only [putB, if_true, hasB]
      by_cases e2 : y = x <;> simp [e2]
    · simp only [putB, if_neg e, hasB, hasB_put (l := l)]
      by_cases e2 : y = a
      · simp [e2]
      · simp [e2]
theorem mulB {T mo : Int} (h1 : 1 ≤ T ∧ T ≤ 6) (h2 : 0 ≤ mo ∧ mo ≤ 4) : 0 ≤ T * mo ∧ T * mo ≤ 24 := by
  have a : T = 1 ∨ T = 2 ∨ T = 3 ∨ T = 4 ∨ T = 5 ∨ T = 6 := by omega
  rcases a with rfl | rfl | rfl | rfl | rfl | rfl <;> omega
section
variable {O : Mo} {k : Ky} {T mo : Int} {cs ls : List AV} {W l : List Int}
theorem oneU_ok (h : TRO O k T mo cs ls W l) (h2 : 0 ≤ mo ∧ mo ≤ 4) {i v : Int} (w : Bool) (h0 : 0 ≤ i) (h1 : i < T) (hv : hasB v l = false) (v1 : 1 ≤ v) (v2 : v ≤ T * mo) :
    ∃ O', oneU w i v k.k1 k.k5 k.k6 k.k7 O = some (.tup [.bool w, .bool true, .bool false], O') ∧ TRO O' k T mo (cs.set i.toNat .nilp) ls W (putB v l) ∧ ∀ cs j d, DO O cs T j d → DO O' cs T j d := by
  have hm := mulB h.T6 h2
  have c1 := h.c1
  have T6 := h.T6
  have hm2 := h.setm (putB v l)
  have hc := hm2.setc i.toNat .nilp
  refine ⟨_, ?_, hc, fun cs j d hd => ?_⟩
  · have a1 : 0 ≤ T ∧ T ≤ 255 ∧ 0 ≤ mo ∧ mo ≤ 255 := by omega
    have a2 : 0 ≤ T * mo ∧ T * mo ≤ 100000 := by omega
    have a3 : i < (cs.length : Int) := by omega
    simp only [oneU, h.o5, mapB_mk h.og, hv, if_true, if_pos v1, h.o6, h.o7, if_pos a1, if_pos a2, if_pos v2, hm2.o1, hm2.oa, if_pos h0, if_pos a3]
  · exact (hd.keep (Ag.set _ _ (by simp)) h.ng).keep (Ag.set _ _ (by simp)) hm2.nc
end
end Den

/- TicketRaces: a thread's step, the rounds. -/
set_option maxRecDepth 100000
set_option maxHeartbeats 1000000
set_option linter.unusedSimpArgs false
set_option linter.unusedVariables false
namespace Den
open Go Go.Proofs

section
variable {O : Mo} {k : Ky} {T mo g : Int} {cs ls : List AV} {W l : List Int} {D : Int → Option DP} {L : Int → Int}
theorem TR.g24 (H : TR O k T mo cs ls W l D L g) : 0 ≤ g ∧ g ≤ 24 := by
  have hm := mulB H.o.T6 H.mo4
  have ml := H.ml
  have su := H.su
  have := cnT_pos (D := D) (L := L) T.toNat (fun i hi => (H.lf i (by omega) (by omega)).2.1)
  omega
theorem drawP_len {O O' : Mo} {km kb kd ka kr kn : Nat} {b t th : Int} {p : DP} {W W' : List Int} (m : MemW O km kb W) (d : Dn O kd ka kr kn b t th p) (g : Ag O O' [kb, ka, kr, kd]) (m' : MemW O' km kb W') : W'.length = W.length := by
  have n1 : km ≠ kb := ne_get m.m m.b (by simp)
  have n2 : km ≠ ka := ne_get m.m d.A (by simp [subB])
  have n3 : km ≠ kr := ne_get m.m d.R (by simp [subB])
  have n4 : km ≠ kd := ne_get m.m d.K (by simp [dwB])
  have e := g.get m.m (by simp [n1, n2, n3, n4])
  rw [m'.m] at e; simp at e; exact e
theorem res_draw {O : Mo} {k ka kr kn : Nat} {b t th : Int} {p : DP} (h : Dn O k ka kr kn b t th p) (h5 : p.st = 5) : drawResS [.ref 0 k 0] O = some (.int .u64 p.nu, O) := by
  have hK := h.K
  unfold dwB dnow at hK
  simp [h5] at hK
  simp [drawResS, hK, relT]
theorem oneT_ok (H : TR O k T mo cs ls W l D L g) (j : Nat) (hj : (j : Int) < T) {p : DP} (hD : D j = some p) {kd : Nat} (hc : cs[j]? = some (.ref 0 kd 0)) :
    ∃ O' cs' W' l' d g' w, oneT j kd k.k1 k.k4 k.k5 k.k6 k.k7 O = some (.tup [.bool w, .bool true, .bool false], O') ∧ TR O' k T mo cs' ls W' l' (upD D j d) L g' ∧
      (w = true → d = some p ∧ W' = W ∧ drawP (16 + 128 * 1) T j p W = some (p, W, true)) ∧ (w = false → rkO d < rkD p) := by
  have hg := H.g24
  have hm := mulB H.o.T6 H.mo4
  have h0 : 0 ≤ (j : Int) := by omega
  have tj : ((j : Int)).toNat = j := by omega
  have c1 := H.o.c1
  obtain ⟨z0, z5⟩ := H.R.alive h0 hj hD
  obtain ⟨p', W', w, e, hr⟩ := H.R.step (by omega) h0 hj hD
  have hd := H.d j h0 hj
  rw [hD] at hd
  obtain ⟨kd2, ka, kr, kn, hc2, dn⟩ := hd
  rw [tj, hc] at hc2
  have : kd2 = kd := by simp at hc2; exact hc2.symm
  subst this
  obtain ⟨O1, e1, g1, m1, d1⟩ := step_draw H.o.M dn e
  have hlen := drawP_len H.o.M dn g1 m1
  have T1 := H.o.run dn g1 m1 hlen
  have rk := drawP_rk e
  have a3 : (j : Int) < (cs.length : Int) := by omega
  have hoth : ∀ i, 0 ≤ i → i < T → i ≠ (j : Int) → DO O1 cs T i (D i) := fun i i0 i1 hne => by
    have := H.d i i0 i1
    cases hDi : D i with
    | none => rw [hDi] at this; exact this
    | some q =>
      rw [hDi] at this
      obtain ⟨kx, kax, krx, knx, hx, dx⟩ := this
      exact ⟨kx, kax, krx, knx, hx, dx.other dn hne H.o.M g1⟩
  have onp : onO (D j) = 1 := by rw [hD]; rfl
  rcases hr with ⟨n5, R1⟩ | ⟨n5, nu, R1⟩
  · have hz : p'.st ≠ 0 := (R1.alive h0 hj (upD_self _ _ _)).1
    have e2 := done_draw d1 hz
    simp only [n5, decide_false] at e2
    refine ⟨O1, cs, W', l, some p', g, w, ?_, ?_, ?_, ?_⟩
    · simp only [oneT, H.o.o4, e1, oneV, T1.o1, T1.oa, eq_self, if_true, if_pos h0, if_pos a3, tj, hc, e2]
    · exact { o := T1
              d := fun i i0 i1 => by
                by_cases hij : i = (j : Int)
                · subst hij; rw [upD_self]; exact ⟨kd2, ka, kr, kn, by rw [tj]; exact hc, d1⟩
                · rw [upD_ne _ _ hij]; exact hoth i i0 i1 hij
              lf := H.lf
              ml := H.ml
              mh := H.mh
              R := R1
              su := by
                have := cnT_up D L (some p') (L j) T.toNat (j := j) (by omega)
                rw [updI_id, onp] at this
                have hsu := H.su
                simp only [onO] at this
                omega
              mo4 := H.mo4 }
    · intro hw
      obtain ⟨e3, e4⟩ := rk.1 hw
      subst hw e3 e4
      exact ⟨rfl, rfl, e⟩
    · intro hw; exact rk.2 hw
  · have hz : p'.st ≠ 0 := by omega
    have e2 := done_draw d1 hz
    simp only [n5, decide_true] at e2
    have e3 := res_draw d1 n5
    have hge := cnT_ge1 (D := D) (L := L) T.toNat (fun i hi => (H.lf i (by omega) (by omega)).2.1) j (by omega)
    have hL := (H.lf j h0 hj).2.1
    have hsu := H.su
    have hv : hasB p'.nu l = false := by
      cases hh : hasB p'.nu l with
      | false => rfl
      | true => have := (H.mh _).1 hh; omega
    obtain ⟨O2, e4, T2, k2⟩ := oneU_ok T1 H.mo4 w h0 hj hv (by omega) (by omega)
    have hw : w = false := by
      cases w with
      | false => rfl
      | true => have := (rk.1 rfl).1; subst this; exact absurd n5 z5
    refine ⟨O2, cs.set j .nilp, W', putB p'.nu l, none, g + 1, w, ?_, ?_, ?_, ?_⟩
    · simp only [oneT, H.o.o4, e1, oneV, T1.o1, T1.oa, eq_self, if_true, if_pos h0, if_pos a3, tj, hc, e2, oneW, e3, e4]
    · rw [tj] at T2
      exact { o := T2
              d := fun i i0 i1 => by
                by_cases hij : i = (j : Int)
                · subst hij; rw [upD_self]
                  show (cs.set j .nilp)[((j : Int)).toNat]? = _
                  rw [tj, List.getElem?_set_self (by omega)]
                · rw [upD_ne _ _ hij]; exact k2 _ _ _ ((hoth i i0 i1 hij).setc (by omega))
              lf := H.lf
              ml := by rw [putB_len hv]; have := H.ml; omega
              mh := fun x => by
                rw [hasB_put]
                simp only [Bool.or_eq_true, decide_eq_true_eq, H.mh]
                omega
              R := R1
              su := by
                have := cnT_up D L none (L j) T.toNat (j := j) (by omega)
                rw [updI_id, onp] at this
                simp only [onO] at this
                omega
              mo4 := H.mo4 }
    · intro h; rw [hw] at h; cases h
    · intro _
      have := rk.2 hw
      show 0 < rkD p
      omega
theorem rkO_n : rkO none = 0 := rfl
theorem rkO_s (p : DP) : rkO (some p) = rkD p := rfl
theorem draw_first {b t th : Int} {W : List Int} {p' : DP} {W' : List Int} {w : Bool} (h : drawP b t th dp0 W = some (p', W', w)) : w = false := by
  unfold drawP at h
  simp only [dp0, if_true] at h
  split at h
  · rename_i hq
    simp only [acqP, if_true] at hq
    obtain ⟨x, _, e⟩ := Option.map_eq_some_iff.1 hq
    cases e; cases h; rfl
  · cases h
def argO (k : Ky) (i : Int) : List AV := [.int .i64 i, .ref 0 k.k1 0, .ref 0 k.k2 0, .ref 0 k.k3 0, .ref 0 k.k4 0, .ref 0 k.k5 0, .ref 0 k.k6 0, .ref 0 k.k7 0]
theorem one_ok (H : TR O k T mo cs ls W l D L g) (j : Nat) (hj : (j : Int) < T) :
    ∃ O' cs' ls' W' l' D' L' g' w o, oneS (argO k j) O = some (.tup [.bool w, .bool o, .bool false], O') ∧ TR O' k T mo cs' ls' W' l' D' L' g' ∧
      ((o = false ∧ w = false ∧ D' = D ∧ L' = L ∧ W' = W ∧ D j = none ∧ L j = 0) ∨ (o = true ∧ w = true ∧ D' = D ∧ L' = L ∧ W' = W ∧ ∃ p, D j = some p ∧ drawP (16 + 128 * 1) T j p W = some (p, W, true)) ∨
        (o = true ∧ w = false ∧ rkT D' L' T.toNat < rkT D L T.toNat)) := by
  have T6 := H.o.T6
  have h0 : 0 ≤ (j : Int) := by omega
  have tj : ((j : Int)).toNat = j := by omega
  have c1 := H.o.c1
  have l1 := H.o.l1
  have a3 : (j : Int) < (cs.length : Int) := by omega
  have a4 : (j : Int) < (ls.length : Int) := by omega
  have hd := H.d j h0 hj
  obtain ⟨lf, lf0, lf4⟩ := H.lf j h0 hj
  rw [tj] at lf
  cases hD : D j with
  | none =>
    rw [hD] at hd
    have hd : cs[((j : Int)).toNat]? = some .nilp := hd
    rw [tj] at hd
    by_cases hL : L j = 0
    · refine ⟨O, cs, ls, W, l, D, L, g, false, false, ?_, H, Or.inl ⟨rfl, rfl, rfl, rfl, rfl, rfl, hL⟩⟩
      simp only [oneS, argO, H.o.o1, H.o.oa, eq_self, if_true, if_pos h0, if_pos a3, tj, hd, oneA, H.o.o2, H.o.ol, if_pos a4, lf, if_pos hL]
    · obtain ⟨O1, e1, g1, d1⟩ := newDraw_ok O 1 T j (by omega) (by omega) h0 hj
      have T1 := H.o.fresh g1
      have T2 := T1.setc j (.ref 0 (O.length + 3) 0)
      have T3 := T2.setl j (.int .i64 (L j - 1))
      have k23 : ∀ cs i d, DO O1 cs T i d → DO ((O1.set k.ka (.buf 1 (cs.set j (.ref 0 (O.length + 3) 0)))).set k.kl (.buf 1 (ls.set j (.int .i64 (L j - 1))))) cs T i d → True := fun _ _ _ _ _ => trivial
      have hcj : (cs.set j (.ref 0 (O.length + 3) 0))[j]? = some (.ref 0 (O.length + 3) 0) := List.getElem?_set_self (by omega)
      have hlj : (ls.set j (.int .i64 (L j - 1)))[j]? = some (.int .i64 (L j - 1)) := List.getElem?_set_self (by omega)
      have H3 : TR ((O1.set k.ka (.buf 1 (cs.set j (.ref 0 (O.length + 3) 0)))).set k.kl (.buf 1 (ls.set j (.int .i64 (L j - 1))))) k T mo (cs.set j (.ref 0 (O.length + 3) 0)) (ls.set j (.int .i64 (L j - 1))) W l (upD D j (some dp0)) (updI L j (L j - 1)) g :=
        { o := T3
          d := fun i i0 i1 => by
            by_cases hij : i = (j : Int)
            · subst hij; rw [upD_self]
              exact ⟨O.length + 3, O.length + 1, O.length + 2, O.length, by rw [tj]; exact hcj, (d1.keep (Ag.set _ _ (by simp)) T1.nc).keep (Ag.set _ _ (by simp)) T2.nl⟩
            · rw [upD_ne _ _ hij]
              exact ((((H.d i i0 i1).keep g1 (noAr_nil _)).setc (by omega)).keep (Ag.set _ _ (by simp)) T1.nc).keep (Ag.set _ _ (by simp)) T2.nl
          lf := fun i i0 i1 => by
            by_cases hij : i = (j : Int)
            · subst hij; rw [updI_self, tj]; exact ⟨hlj, by omega⟩
            · rw [updI_ne _ _ hij, List.getElem?_set_ne (by omega)]; exact H.lf i i0 i1
          ml := H.ml
          mh := H.mh
          R := H.R.start h0 hj hD
          su := by
            have := cnT_up D L (some dp0) (L j - 1) T.toNat (j := j) (by omega)
            rw [hD] at this
            simp only [onO] at this
            have hsu := H.su
            omega
          mo4 := H.mo4 }
      obtain ⟨O', cs', W', l', d, g', w, e2, H', hw1, hw2⟩ := oneT_ok H3 j hj (upD_self _ _ _) hcj
      have hup := rkT_up D L d (L j - 1) T.toNat (j := j) (by omega)
      rw [hD] at hup
      simp only [rkO_n, rkO_s] at hup
      rw [upD_upD] at H'
      have hwf : w = false := by
        cases w with
        | false => rfl
        | true =>
          exact absurd (draw_first (hw1 rfl).2.2) (by simp)
      have hlt : rkO d ≤ 30 := by have := hw2 hwf; have hh : rkD dp0 = 30 := rfl; omega
      refine ⟨O', cs', _, W', l', _, _, g', w, true, ?_, H', Or.inr (Or.inr ⟨rfl, hwf, by omega⟩)⟩
      have b3 : 0 ≤ L j ∧ L j ≤ 1000 := by omega
      have b4 : (j : Int) < ((cs.set j (.ref 0 (O.length + 3) 0)).length : Int) := by rw [List.length_set]; exact a3
      simp only [oneS, argO, H.o.o1, H.o.oa, eq_self, if_true, if_pos h0, if_pos a3, tj, hd, oneA, H.o.o2, H.o.ol, if_pos a4, lf, if_neg hL, if_pos b3, H.o.o3, e1, oneB, T1.o1, T1.oa, T2.o2, T2.ol, oneQ, T3.o1, T3.oa, if_pos b4, hcj, e2]
  | some p =>
    rw [hD] at hd
    obtain ⟨kd, ka, kr, kn, hc, dn⟩ := hd
    rw [tj] at hc
    obtain ⟨O', cs', W', l', d, g', w, e2, H', hw1, hw2⟩ := oneT_ok H j hj hD hc
    have e : oneS (argO k j) O = some (.tup [.bool w, .bool true, .bool false], O') := by
      simp only [oneS, argO, H.o.o1, H.o.oa, eq_self, if_true, if_pos h0, if_pos a3, tj, hc, e2]
    cases w with
    | true =>
      obtain ⟨f1, f2, f3⟩ := hw1 rfl
      subst f1 f2
      rw [← hD, upD_id] at H'
      exact ⟨O', cs', ls, _, l', D, L, g', true, true, e, H', Or.inr (Or.inl ⟨rfl, rfl, rfl, rfl, rfl, p, rfl, f3⟩)⟩
    | false =>
      have hup := rkT_up D L d (L j) T.toNat (j := j) (by omega)
      rw [updI_id, hD] at hup
      simp only [rkO_n, rkO_s] at hup
      have := hw2 rfl
      refine ⟨O', cs', ls, W', l', _, L, g', false, true, e, H', Or.inr (Or.inr ⟨rfl, rfl, ?_⟩)⟩
      omega
end
end Den

/- TicketRaces: the rounds, the beginning, the law. -/
set_option maxRecDepth 100000
set_option maxHeartbeats 1000000
set_option linter.unusedSimpArgs false
set_option linter.unusedVariables false
namespace Den
open Go Go.Proofs

theorem trPick_ok {k : Ky} {T mo rd : Int} {pv : AV} {pl : List Int} {K : Int → Mo → Option (AV × Mo)} (hpl : pl.length ≤ 60) (hpr : ∀ x ∈ pl, 0 ≤ x ∧ x ≤ 255) (hpv : ∀ O, rd8 O pv = some pl) :
    ∀ (m : Nat) (i : Int) (O : Mo) (cs ls : List AV) (W l : List Int) (D : Int → Option DP) (L : Int → Int) (g : Int), 0 ≤ i → i ≤ pl.length → (pl.length : Int) < i + m → TR O k T mo cs ls W l D L g →
    ∃ O' cs' ls' W' l' D' L' g', trPick k.k1 k.k2 k.k3 k.k4 k.k5 k.k6 k.k7 pv rd K m i O = trAll k.k1 k.k2 k.k3 k.k4 k.k5 k.k6 k.k7 pv rd K 1002 false false 0 O' ∧ TR O' k T mo cs' ls' W' l' D' L' g' ∧ rkT D' L' T.toNat ≤ rkT D L T.toNat := by
  intro m
  induction m with
  | zero => intro i O cs ls W l D L g h0 h1 h2; omega
  | succ m ih =>
    intro i O cs ls W l D L g h0 h1 h2 H
    have T6 := H.o.T6
    have c1 : pl.length ≤ 1000 := by omega
    by_cases hk : i < (pl.length : Int)
    · obtain ⟨x, hx⟩ := get_of_lt (W := pl) (i := i.toNat) (by omega)
      have hxr := hpr x (List.mem_of_getElem? hx)
      have t0 := Int.emod_nonneg x (show T ≠ 0 by omega)
      have t1 := Int.emod_lt_of_pos x (show 0 < T by omega)
      have c2 : 0 < T ∧ T ≤ 255 := by omega
      have c3 : 0 ≤ x % T ∧ x % T < T := ⟨t0, t1⟩
      have tj : (((x % T).toNat : Nat) : Int) = x % T := by omega
      obtain ⟨O1, cs1, ls1, W1, l1, D1, L1, g1, w, o, e1, H1, hr⟩ := one_ok H (x % T).toNat (by omega)
      rw [tj] at e1
      unfold argO at e1
      obtain ⟨O', cs', ls', W', l', D', L', g', e4, H', hle⟩ := ih (i + 1) O1 cs1 ls1 W1 l1 D1 L1 g1 (by omega) (by omega) (by omega) H1
      refine ⟨O', cs', ls', W', l', D', L', g', by simp only [trPick, hpv, if_pos c1, if_pos hk, if_pos h0, hx, if_pos hxr, H.o.o6, if_pos c2, if_pos c3, e1, e4], H', ?_⟩
      rcases hr with ⟨_, _, e5, e6, _⟩ | ⟨_, _, e5, e6, _⟩ | ⟨_, _, e5⟩
      · rw [e5, e6] at hle; exact hle
      · rw [e5, e6] at hle; exact hle
      · omega
    · exact ⟨O, cs, ls, W, l, D, L, g, by simp only [trPick, hpv, if_pos c1, if_neg hk], H, Nat.le_refl _⟩
theorem trAll_ok {k : Ky} {T mo rd : Int} {pv : AV} {K : Int → Mo → Option (AV × Mo)} (r0 : Nat) :
    ∀ (m : Nat) (op mv : Bool) (j : Nat) (O : Mo) (cs ls : List AV) (W l : List Int) (D : Int → Option DP) (L : Int → Int) (g : Int), (j : Int) ≤ T → T < j + m → TR O k T mo cs ls W l D L g →
    (mv = true → op = true ∧ rkT D L T.toNat < r0) → (mv = false → rkT D L T.toNat ≤ r0 ∧ ∀ i : Nat, i < j → ∀ p, D i = some p → drawP (16 + 128 * 1) T i p W = some (p, W, true)) →
    (op = true → mv = false → ∃ i : Nat, (i : Int) < T ∧ D i ≠ none) → (op = false → ∀ i : Nat, i < j → D i = none ∧ L i = 0) →
    (∃ O', trAll k.k1 k.k2 k.k3 k.k4 k.k5 k.k6 k.k7 pv rd K m op mv j O = some (.bool true, O')) ∨ ∃ O' cs' ls' W' l' D' L' g', trAll k.k1 k.k2 k.k3 k.k4 k.k5 k.k6 k.k7 pv rd K m op mv j O = K (rd + 1) O' ∧ TR O' k T mo cs' ls' W' l' D' L' g' ∧ rkT D' L' T.toNat < r0 := by
  intro m
  induction m with
  | zero => intro op mv j O cs ls W l D L g h0 h1; omega
  | succ m ih =>
    intro op mv j O cs ls W l D L g h0 h1 H i1 i2 i3 i4
    have T6 := H.o.T6
    have c2 : 0 ≤ T ∧ T ≤ 255 := by omega
    have c0 : 0 ≤ (j : Int) := by omega
    have hg := H.g24
    by_cases hk : (j : Int) < T
    · obtain ⟨O1, cs1, ls1, W1, l1, D1, L1, g1, w, o, e1, H1, hr⟩ := one_ok H j hk
      unfold argO at e1
      have cj : ((j + 1 : Nat) : Int) = (j : Int) + 1 := by omega
      have e : trAll k.k1 k.k2 k.k3 k.k4 k.k5 k.k6 k.k7 pv rd K (m + 1) op mv j O = (match op with
          | true => match mv with
            | true => trAll k.k1 k.k2 k.k3 k.k4 k.k5 k.k6 k.k7 pv rd K m true true ((j : Int) + 1) O1
            | false => match o with
              | true => trAll k.k1 k.k2 k.k3 k.k4 k.k5 k.k6 k.k7 pv rd K m true (!w) ((j : Int) + 1) O1
              | false => trAll k.k1 k.k2 k.k3 k.k4 k.k5 k.k6 k.k7 pv rd K m true false ((j : Int) + 1) O1
          | false => match mv with
            | true => none
            | false => match o with
              | true => trAll k.k1 k.k2 k.k3 k.k4 k.k5 k.k6 k.k7 pv rd K m true (!w) ((j : Int) + 1) O1
              | false => trAll k.k1 k.k2 k.k3 k.k4 k.k5 k.k6 k.k7 pv rd K m false false ((j : Int) + 1) O1) := by
        conv => lhs; unfold trAll
        simp only [H.o.o6, if_pos c2, if_pos c0, if_pos hk, e1]
        cases op <;> cases mv <;> cases o <;> rfl
      rw [e]
      have le1 : rkT D1 L1 T.toNat ≤ rkT D L T.toNat := by
        rcases hr with ⟨_, _, e5, e6, _⟩ | ⟨_, _, e5, e6, _⟩ | ⟨_, _, e5⟩
        · rw [e5, e6]; exact Nat.le_refl _
        · rw [e5, e6]; exact Nat.le_refl _
        · omega
      cases mv with
      | true =>
        obtain ⟨ho, hlt⟩ := i1 rfl
        subst ho
        have := ih true true (j + 1) O1 cs1 ls1 W1 l1 D1 L1 g1 (by omega) (by omega) H1 (fun _ => ⟨rfl, by omega⟩) (by simp) (by simp) (by simp)
        rw [cj] at this; exact this
      | false =>
        obtain ⟨hle, hst⟩ := i2 rfl
        rcases hr with ⟨eo, ew, e5, e6, e7, e8, e9⟩ | ⟨eo, ew, e5, e6, e7, p, e8, e9⟩ | ⟨eo, ew, e5⟩
        · subst eo ew e5 e6 e7
          have hst' : ∀ i : Nat, i < j + 1 → ∀ p, D1 i = some p → drawP (16 + 128 * 1) T i p W1 = some (p, W1, true) := fun i hi p hp => by
            by_cases hij : i = j
            · subst hij; rw [e8] at hp; cases hp
            · exact hst i (by omega) p hp
          cases op with
          | true =>
            have := ih true false (j + 1) O1 cs1 ls1 W1 l1 D1 L1 g1 (by omega) (by omega) H1 (by simp) (fun _ => ⟨hle, hst'⟩) (fun _ _ => i3 rfl rfl) (by simp)
            rw [cj] at this; exact this
          | false =>
            have := ih false false (j + 1) O1 cs1 ls1 W1 l1 D1 L1 g1 (by omega) (by omega) H1 (by simp) (fun _ => ⟨hle, hst'⟩) (by simp) (fun _ i hi => by
              by_cases hij : i = j
              · subst hij; exact ⟨e8, e9⟩
              · exact i4 rfl i (by omega))
            rw [cj] at this; exact this
        · subst eo ew e5 e6 e7
          have hst' : ∀ i : Nat, i < j + 1 → ∀ p, D1 i = some p → drawP (16 + 128 * 1) T i p W1 = some (p, W1, true) := fun i hi p' hp => by
            by_cases hij : i = j
            · subst hij; rw [e8] at hp; cases hp; exact e9
            · exact hst i (by omega) p' hp
          have := ih true false (j + 1) O1 cs1 ls1 W1 l1 D1 L1 g1 (by omega) (by omega) H1 (by simp) (fun _ => ⟨hle, hst'⟩) (fun _ _ => ⟨j, hk, by rw [e8]; simp⟩) (by simp)
          rw [cj] at this
          cases op <;> exact this
        · subst eo ew
          have := ih true true (j + 1) O1 cs1 ls1 W1 l1 D1 L1 g1 (by omega) (by omega) H1 (fun _ => ⟨rfl, by omega⟩) (by simp) (by simp) (by simp)
          rw [cj] at this
          cases op <;> exact this
    · have hjT : (j : Int) = T := by omega
      cases op with
      | true =>
        cases mv with
        | true => exact Or.inr ⟨O, cs, ls, W, l, D, L, g, by conv => { lhs; unfold trAll }; simp only [H.o.o6, if_pos c2, if_pos c0, if_neg hk], H, (i1 rfl).2⟩
        | false =>
          exfalso
          obtain ⟨i, hi, hne⟩ := i3 rfl rfl
          obtain ⟨x, p, x0, x1, hx, hw⟩ := H.R.live (by omega) ⟨i, by omega, hi, hne⟩
          have tx : ((x.toNat : Nat) : Int) = x := by omega
          have := (i2 rfl).2 x.toNat (by omega) p (by rw [tx]; exact hx)
          rw [tx] at this
          have := hw _ _ _ this
          cases this
      | false =>
        cases mv with
        | true => have := (i1 rfl).1; cases this
        | false =>
          have hd := i4 rfl
          have h0 := cnT_0 (D := D) (L := L) T.toNat (fun i hi => hd i (by omega))
          have hsu := H.su
          have hml := H.ml
          have hm := mulB H.o.T6 H.mo4
          have hmo := H.mo4
          have c4 : 0 ≤ mo ∧ mo ≤ 255 := by omega
          have c5 : 0 ≤ T * mo ∧ T * mo ≤ 100000 := by omega
          have c6 : (l.length : Int) = T * mo := by omega
          exact Or.inl ⟨O, by conv => { lhs; unfold trAll }; simp only [H.o.o6, if_pos c2, if_pos c0, if_neg hk, H.o.o5, mapB_mk H.o.og, H.o.o7, if_pos c4, if_pos c5, if_pos c6, known32S]⟩
theorem trRnd_ok {k : Ky} {T mo : Int} {pv : AV} {pl : List Int} (hpl : pl.length ≤ 60) (hpr : ∀ x ∈ pl, 0 ≤ x ∧ x ≤ 255) (hpv : ∀ O, rd8 O pv = some pl) :
    ∀ (m : Nat) (rd : Nat) (O : Mo) (cs ls : List AV) (W l : List Int) (D : Int → Option DP) (L : Int → Int) (g : Int), rkT D L T.toNat + rd < 5000 → rkT D L T.toNat < m → TR O k T mo cs ls W l D L g →
    ∃ O', trRnd k.k1 k.k2 k.k3 k.k4 k.k5 k.k6 k.k7 pv m rd O = some (.bool true, O') := by
  intro m
  induction m with
  | zero => intro rd O cs ls W l D L g h0 h1; omega
  | succ m ih =>
    intro rd O cs ls W l D L g h0 h1 H
    have T6 := H.o.T6
    have c1 : (rd : Int) < 5000 := by omega
    have c2 : (0 : Int) ≤ rd := by omega
    obtain ⟨O1, cs1, ls1, W1, l1, D1, L1, g1, e1, H1, r1⟩ := trPick_ok (rd := rd) (K := fun rd O => trRnd k.k1 k.k2 k.k3 k.k4 k.k5 k.k6 k.k7 pv m rd O) hpl hpr hpv 1002 0 O cs ls W l D L g (by omega) (by omega) (by omega) H
    rcases trAll_ok (pv := pv) (rd := rd) (K := fun rd O => trRnd k.k1 k.k2 k.k3 k.k4 k.k5 k.k6 k.k7 pv m rd O) (rkT D1 L1 T.toNat) 1002 false false 0 O1 cs1 ls1 W1 l1 D1 L1 g1 (by omega) (by omega) H1 (by simp) (fun _ => ⟨Nat.le_refl _, fun j hj => by omega⟩) (by simp) (fun _ j hj => by omega) with ⟨O', e⟩ | ⟨O2, cs2, ls2, W2, l2, D2, L2, g2, e, H2, r2⟩
    · exact ⟨O', by simp only [trRnd, if_pos c1, if_pos c2, e1]; exact e⟩
    · obtain ⟨O', e3⟩ := ih (rd + 1) O2 cs2 ls2 W2 l2 D2 L2 g2 (by omega) (by omega) H2
      refine ⟨O', ?_⟩
      simp only [trRnd, if_pos c1, if_pos c2, e1]
      rw [show ((rd + 1 : Nat) : Int) = (rd : Int) + 1 by omega] at e3
      exact e.trans e3
def lsI (mo : Int) (T i : Nat) : List AV := List.replicate i (.int .i64 mo) ++ List.replicate (T - i) (.int .i64 0)
theorem lsI_set {mo : Int} {T i : Nat} (h : i < T) : (lsI mo T i).set i (.int .i64 mo) = lsI mo T (i + 1) := by
  unfold lsI
  rw [List.set_append_right _ _ (by simp), List.length_replicate, Nat.sub_self]
  obtain ⟨n, hn⟩ : ∃ n, T - i = n + 1 := ⟨T - i - 1, by omega⟩
  rw [hn, show T - (i + 1) = n by omega, List.replicate_succ, List.set_cons_zero, List.replicate_succ', List.append_assoc]; rfl
theorem trIni_ok {k : Ky} {T mo : Int} {pv : AV} {pl : List Int} {cs : List AV} {W : List Int} (hm : 0 ≤ mo ∧ mo ≤ 4) (hpl : pl.length ≤ 60) (hpr : ∀ x ∈ pl, 0 ≤ x ∧ x ≤ 255) (hpv : ∀ O, rd8 O pv = some pl) (hcs : ∀ i : Nat, (i : Int) < T → cs[i]? = some .nilp) (hR : RDx (16 + 128 * 1) T W 0 (fun _ => none)) :
    ∀ (m : Nat) (i : Nat) (O : Mo), (i : Int) ≤ T → T < i + m → TRO O k T mo cs (lsI mo T.toNat i) W [] →
    ∃ O', trIni k.k1 k.k2 k.k3 k.k4 k.k5 k.k6 k.k7 pv T m i O = some (.bool true, O') := by
  intro m
  induction m with
  | zero => intro i O h0 h1; omega
  | succ m ih =>
    intro i O h0 h1 H
    have T6 := H.T6
    have l1 := H.l1
    by_cases hi : (i : Int) < T
    · have c0 : 0 ≤ (i : Int) := by omega
      have ti : ((i : Int)).toNat = i := by omega
      have c1 : (i : Int) < ((lsI mo T.toNat i).length : Int) := by omega
      have c2 : 0 ≤ mo ∧ mo ≤ 255 := by omega
      have H1 := H.setl i (.int .i64 mo)
      rw [lsI_set (by omega)] at H1
      obtain ⟨O', e⟩ := ih (i + 1) _ (by omega) (by omega) H1
      rw [show ((i + 1 : Nat) : Int) = (i : Int) + 1 by omega] at e
      exact ⟨O', by simp only [trIni, if_pos hi, if_pos c0, H.o2, H.ol, eq_self, if_true, if_pos c1, H.o7, if_pos c2, ti, lsI_set (show i < T.toNat by omega), e]⟩
    · have hiT : (i : Int) = T := by omega
      have hiN : i = T.toNat := by omega
      subst hiN
      have HT : TR O k T mo cs (lsI mo T.toNat T.toNat) W [] (fun _ => none) (fun _ => mo) 0 :=
        { o := H
          d := fun j j0 j1 => by
            show cs[j.toNat]? = _
            exact hcs _ (by omega)
          lf := fun j j0 j1 => ⟨by
            unfold lsI
            rw [List.getElem?_append_left (by simp; omega), List.getElem?_replicate, if_pos (by omega)], hm⟩
          ml := rfl
          mh := fun x => by simp [hasB]; omega
          R := hR
          su := by rw [cnT_c, show ((T.toNat : Nat) : Int) = T by omega]; omega
          mo4 := hm }
      have hr := rkT_c (mo := mo) hm.2 T.toNat
      obtain ⟨O', e⟩ := trRnd_ok (k := k) (T := T) (mo := mo) hpl hpr hpv 5002 0 O _ _ W [] _ _ 0 (by omega) (by omega) HT
      exact ⟨O', by simp only [trIni, if_neg hi]; exact e⟩
theorem rep_one (v : AV) : ∀ n, repCells [v] n = List.replicate n v
  | 0 => rfl
  | n + 1 => by show [v] ++ repCells [v] n = _; rw [rep_one v n]; rfl
def keyO (O : Mo) (km kb : Nat) : Ky := ⟨O.length + 4, O.length + 2, 2, O.length, O.length + 6, 0, 1, km, kb, O.length + 3, O.length + 1, O.length + 5⟩
theorem ap_at {O : Mo} {b : ABlk} {k : Nat} (h : O.length = k) : (O ++ [b])[k]? = some b := by subst h; simp
theorem ap_lt {O : Mo} {b c : ABlk} {k : Nat} (h : O[k]? = some c) : (O ++ [b])[k]? = some c := by
  rw [List.getElem?_append_left (List.getElem?_eq_some_iff.1 h).1]; exact h
theorem tracesS_true (T mo : Int) (pv : AV) (pl : List Int) (hT : 0 ≤ T ∧ T ≤ 255) (hm : 0 ≤ mo ∧ mo ≤ 255) (hpr : ∀ x ∈ pl, 0 ≤ x ∧ x ≤ 255) (hpv : ∀ O, rd8 O pv = some pl) :
    ∃ O', tracesS [.int .u8 T, .int .u8 mo, pv] [] = some (.bool true, O') := by
  have c0 : 0 ≤ T ∧ T ≤ 255 ∧ 0 ≤ mo ∧ mo ≤ 255 := by omega
  by_cases c1 : T < 1
  · exact ⟨_, by simp only [tracesS, if_pos c0, hpv, if_pos c1, trK, known32S]; rfl⟩
  by_cases c2 : 6 < T
  · exact ⟨_, by simp only [tracesS, if_pos c0, hpv, if_neg c1, if_pos c2, trK, known32S]; rfl⟩
  by_cases c4 : 4 < mo
  · exact ⟨_, by simp only [tracesS, if_pos c0, hpv, if_neg c1, if_neg c2, if_pos c4, trK, known32S]; rfl⟩
  by_cases c5 : 60 < (pl.length : Int)
  · exact ⟨_, by simp only [tracesS, if_pos c0, hpv, if_neg c1, if_neg c2, if_neg c4, if_pos c5, trK, known32S]; rfl⟩
  obtain ⟨km, kb, O1, W, e1, M1, w1, G1, L1, L2⟩ := format_ok ([] ++ [ABlk.arr [.int .u8 T]] ++ [ABlk.arr [.int .u8 mo]] ++ [ABlk.arr [.int .i64 1, .int .i64 T]]) 1 T (by omega) (by omega)
  have h0 : O1[0]? = some (.arr [.int .u8 T]) := G1.get (by rfl) (by simp)
  have h1 : O1[1]? = some (.arr [.int .u8 mo]) := G1.get (by rfl) (by simp)
  have h2 : O1[2]? = some (.arr [.int .i64 1, .int .i64 T]) := G1.get (by rfl) (by simp)
  have hr : RDx (16 + 128 * 1) T W 0 (fun _ => none) := rds_init (by omega) (by rw [w1.len]; omega) (by rw [w1.get 5 (by omega), fmtG_mid (by omega) (by omega)]) (by rw [w1.get 7 (by omega), fmtG_mid (by omega) (by omega)])
  have len1 : (repCells [AV.int .i64 0] T.toNat).length = T.toNat := by rw [rep_one]; simp
  have len2 : (repCells [AV.nilp] T.toNat).length = T.toNat := by rw [rep_one]; simp
  have hls : lsI mo T.toNat 0 = repCells [AV.int .i64 0] T.toNat := by rw [rep_one]; simp [lsI]
  have H : TRO (O1 ++ [ABlk.arr [.ref 0 km 0]] ++ [ABlk.buf 1 (repCells [.int .i64 0] T.toNat)] ++ [ABlk.arr [.bref 0 (O1 ++ [ABlk.arr [.ref 0 km 0]]).length 0 T.toNat T.toNat]] ++ [ABlk.buf 1 (repCells [.nilp] T.toNat)] ++ [ABlk.arr [.bref 0 (O1 ++ [ABlk.arr [.ref 0 km 0]] ++ [ABlk.buf 1 (repCells [.int .i64 0] T.toNat)] ++ [ABlk.arr [.bref 0 (O1 ++ [ABlk.arr [.ref 0 km 0]]).length 0 T.toNat T.toNat]]).length 0 T.toNat T.toNat]] ++ [ABlk.map []] ++ [ABlk.arr [.map 0 (O1 ++ [ABlk.arr [.ref 0 km 0]] ++ [ABlk.buf 1 (repCells [.int .i64 0] T.toNat)] ++ [ABlk.arr [.bref 0 (O1 ++ [ABlk.arr [.ref 0 km 0]]).length 0 T.toNat T.toNat]] ++ [ABlk.buf 1 (repCells [.nilp] T.toNat)] ++ [ABlk.arr [.bref 0 (O1 ++ [ABlk.arr [.ref 0 km 0]] ++ [ABlk.buf 1 (repCells [.int .i64 0] T.toNat)] ++ [ABlk.arr [.bref 0 (O1 ++ [ABlk.arr [.ref 0 km 0]]).length 0 T.toNat T.toNat]]).length 0 T.toNat T.toNat]]).length]]) (keyO O1 km kb) T mo (repCells [.nilp] T.toNat) (lsI mo T.toNat 0) W [] := by
    have p : ∀ {k : Nat} {c : ABlk}, O1[k]? = some c → (O1 ++ [ABlk.arr [.ref 0 km 0]] ++ [ABlk.buf 1 (repCells [.int .i64 0] T.toNat)] ++ [ABlk.arr [.bref 0 (O1 ++ [ABlk.arr [.ref 0 km 0]]).length 0 T.toNat T.toNat]] ++ [ABlk.buf 1 (repCells [.nilp] T.toNat)] ++ [ABlk.arr [.bref 0 (O1 ++ [ABlk.arr [.ref 0 km 0]] ++ [ABlk.buf 1 (repCells [.int .i64 0] T.toNat)] ++ [ABlk.arr [.bref 0 (O1 ++ [ABlk.arr [.ref 0 km 0]]).length 0 T.toNat T.toNat]]).length 0 T.toNat T.toNat]] ++ [ABlk.map []] ++ [ABlk.arr [.map 0 (O1 ++ [ABlk.arr [.ref 0 km 0]] ++ [ABlk.buf 1 (repCells [.int .i64 0] T.toNat)] ++ [ABlk.arr [.bref 0 (O1 ++ [ABlk.arr [.ref 0 km 0]]).length 0 T.toNat T.toNat]] ++ [ABlk.buf 1 (repCells [.nilp] T.toNat)] ++ [ABlk.arr [.bref 0 (O1 ++ [ABlk.arr [.ref 0 km 0]] ++ [ABlk.buf 1 (repCells [.int .i64 0] T.toNat)] ++ [ABlk.arr [.bref 0 (O1 ++ [ABlk.arr [.ref 0 km 0]]).length 0 T.toNat T.toNat]]).length 0 T.toNat T.toNat]]).length]])[k]? = some c := fun h => ap_lt (ap_lt (ap_lt (ap_lt (ap_lt (ap_lt (ap_lt h))))))
    rw [hls]
    exact { M := ⟨p M1.m, p M1.b, M1.n⟩
            o1 := by rw [len2]; exact ap_lt (ap_lt (by rw [show (keyO O1 km kb).k1 = O1.length + 4 from rfl, show (keyO O1 km kb).ka = (O1 ++ [ABlk.arr [.ref 0 km 0]] ++ [ABlk.buf 1 (repCells [.int .i64 0] T.toNat)] ++ [ABlk.arr [.bref 0 (O1 ++ [ABlk.arr [.ref 0 km 0]]).length 0 T.toNat T.toNat]]).length by simp [keyO]]; exact ap_at (by simp)))
            oa := ap_lt (ap_lt (ap_lt (ap_at (by simp [keyO]))))
            o2 := by rw [len1]; exact ap_lt (ap_lt (ap_lt (ap_lt (by rw [show (keyO O1 km kb).k2 = O1.length + 2 from rfl, show (keyO O1 km kb).kl = (O1 ++ [ABlk.arr [.ref 0 km 0]]).length by simp [keyO]]; exact ap_at (by simp)))))
            ol := ap_lt (ap_lt (ap_lt (ap_lt (ap_lt (ap_at (by simp [keyO]))))))
            o3 := p h2
            o4 := ap_lt (ap_lt (ap_lt (ap_lt (ap_lt (ap_lt (ap_at (by simp [keyO])))))))
            o5 := by rw [show (keyO O1 km kb).kg = (O1 ++ [ABlk.arr [.ref 0 km 0]] ++ [ABlk.buf 1 (repCells [.int .i64 0] T.toNat)] ++ [ABlk.arr [.bref 0 (O1 ++ [ABlk.arr [.ref 0 km 0]]).length 0 T.toNat T.toNat]] ++ [ABlk.buf 1 (repCells [.nilp] T.toNat)] ++ [ABlk.arr [.bref 0 (O1 ++ [ABlk.arr [.ref 0 km 0]] ++ [ABlk.buf 1 (repCells [.int .i64 0] T.toNat)] ++ [ABlk.arr [.bref 0 (O1 ++ [ABlk.arr [.ref 0 km 0]]).length 0 T.toNat T.toNat]]).length 0 T.toNat T.toNat]]).length by simp [keyO]]; exact ap_at (by simp [keyO])
            og := ap_lt (ap_at (by simp [keyO]))
            o6 := p h0
            o7 := p h1
            nal := by simp [keyO]
            c1 := by rw [len2]; omega
            l1 := by rw [len1]; omega
            T6 := by omega
            W7 := by rw [w1.len]; omega }
  obtain ⟨O', e2⟩ := trIni_ok (pl := pl) (by omega) (by omega) hpr hpv (fun i hi => by rw [rep_one, List.getElem?_replicate, if_pos (by omega)]) hr 50 0 _ (by omega) (by omega) H
  refine ⟨O', ?_⟩
  have tT : ((T.toNat : Nat) : Int) = T := by omega
  simp only [tracesS, if_pos c0, hpv, if_neg c1, if_neg c2, if_neg c4, if_neg c5, e1, if_true, tT]
  rw [show ([] : Mo).length = 0 from rfl, h0]
  simp only [if_true]
  have q1 : (O1 ++ [ABlk.arr [.ref 0 km 0]] ++ [ABlk.buf 1 (repCells [.int .i64 0] T.toNat)] ++ [ABlk.arr [.bref 0 (O1 ++ [ABlk.arr [.ref 0 km 0]]).length 0 T.toNat T.toNat]] ++ [ABlk.buf 1 (repCells [.nilp] T.toNat)]).length = (keyO O1 km kb).k1 := by simp [keyO]
  have q2 : (O1 ++ [ABlk.arr [.ref 0 km 0]] ++ [ABlk.buf 1 (repCells [.int .i64 0] T.toNat)]).length = (keyO O1 km kb).k2 := by simp [keyO]
  have q5 : (O1 ++ [ABlk.arr [.ref 0 km 0]] ++ [ABlk.buf 1 (repCells [.int .i64 0] T.toNat)] ++ [ABlk.arr [.bref 0 (O1 ++ [ABlk.arr [.ref 0 km 0]]).length 0 T.toNat T.toNat]] ++ [ABlk.buf 1 (repCells [.nilp] T.toNat)] ++ [ABlk.arr [.bref 0 (O1 ++ [ABlk.arr [.ref 0 km 0]] ++ [ABlk.buf 1 (repCells [.int .i64 0] T.toNat)] ++ [ABlk.arr [.bref 0 (O1 ++ [ABlk.arr [.ref 0 km 0]]).length 0 T.toNat T.toNat]]).length 0 T.toNat T.toNat]] ++ [ABlk.map []]).length = (keyO O1 km kb).k5 := by simp [keyO]
  rw [q1, q2, q5]
  exact e2
theorem shp_bytesT {cs : List AV} (h : Shp (.slice (.int .u8)) cs) : ∃ (v : AV) (l : List Int), cs = [v] ∧ (∀ x ∈ l, 0 ≤ x ∧ x ≤ 255) ∧ ∀ O, rd8 O v = some l := by
  rcases h with rfl | ⟨L, rfl, _, hL⟩
  · exact ⟨.nils, [], rfl, fun x hx => by simp at hx, fun O => rfl⟩
  · have : ∀ L : List (List AV), (∀ x ∈ L, Shp (.int .u8) x) → ∃ l : List Int, L.flatten = enc8 l ∧ l.length = L.length ∧ ∀ x ∈ l, 0 ≤ x ∧ x ≤ 255 := by
      intro L
      induction L with
      | nil => intro _; exact ⟨[], rfl, rfl, fun x hx => by simp at hx⟩
      | cons x L ih =>
        intro hx
        obtain ⟨l, e, hl, hr⟩ := ih (fun y hy => hx y (by simp [hy]))
        obtain ⟨n, rfl, w⟩ := hx x (by simp)
        refine ⟨n :: l, by rw [List.flatten_cons, e]; rfl, by simp [hl], fun y hy => ?_⟩
        simp only [List.mem_cons] at hy
        rcases hy with rfl | hy
        · simp [Lit.wf, IntKind.min, IntKind.max, IntKind.signed, IntKind.bits] at w; omega
        · exact hr y hy
    obtain ⟨l, e, hl, hr⟩ := this L hL
    exact ⟨_, l, rfl, hr, fun O => by rw [e, ← hl]; exact rd8_isl O l⟩
theorem u8_rngT {x : Int} (w : (Lit.int .u8 x).wf = true) : 0 ≤ x ∧ x ≤ 255 := by
  simp [Lit.wf, IntKind.min, IntKind.max, IntKind.signed, IntKind.bits] at w; omega
/-- The law. -/
theorem ticketRaces_law (a0 a1 a2 : List AV) (s0 : Shp (.int .u8) a0) (s1 : Shp (.int .u8) a1) (s2 : Shp (.slice (.int .u8)) a2) :
    ∃ O' S', CallOk Tryz.prog 10 [parV (.int .u8) a0, parV (.int .u8) a1, parV (.slice (.int .u8)) a2] [] [] (.bool true) O' S' := by
  obtain ⟨x, rfl, w0⟩ := s0
  obtain ⟨y, rfl, w1⟩ := s1
  obtain ⟨v, l, rfl, hr, hv⟩ := shp_bytesT s2
  obtain ⟨O', h⟩ := tracesS_true x y v l (u8_rngT w0) (u8_rngT w1) hr hv
  exact ⟨O', [], tracesS_ok _ [] _ _ h []⟩
end Den
