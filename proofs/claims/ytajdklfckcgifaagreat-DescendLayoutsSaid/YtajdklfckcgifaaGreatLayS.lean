/- Contracts: where pages are; an arena that is opened, counted, read. -/
import Derived.Test.YtajdklfckcgifaaGreatSpecs
import Derived.Test.YtajdklfckcgifaaGreatDenGR
import Derived.Test.YtajdklfckcgifaaGreatKnownS
set_option maxRecDepth 100000
set_option maxHeartbeats 4000000
set_option linter.unusedSimpArgs false
set_option linter.unusedVariables false
namespace Den
open Go Go.Proofs

theorem snapL_W {S : Ms} {l : List AV} (h : l.all isW = true) : snapL S l = some l :=
  snapL_plain S l (List.all_eq_true.2 fun v hv => by
    have := List.all_eq_true.1 h v hv
    cases v <;> first | (cases this; done) | rfl)
theorem drop_all {α : Type} {n : Nat} {cs : List α} (h : cs.length = n) : cs.drop n = [] := List.drop_eq_nil_of_le (by omega)
def slB0 (d k tot : Nat) (b : Option (Nat × Nat)) : Option AV := match b with
  | some (l, h) => some (.bref d k l (h - l) tot)
  | none => none
theorem slc_b0 (le : List AV) (lo hi : Option Opd) (d k len tot : Nat) : slcA le lo hi 1 (.bref d k 0 len tot) = slB0 d k tot (bounds le lo hi len) := by
  simp only [slcA, slB0, Nat.mul_one, Nat.zero_add]
  cases bounds le lo hi len <;> rfl
theorem slB0_s (d k tot l h : Nat) : slB0 d k tot (some (l, h)) = some (.bref d k l (h - l) tot) := rfl
/-- arena.Word -/
def aWordS : Sp := fun args O =>
  match args with
  | [.int .i64 p, .int .i64 i] =>
    if p < 1 then some (.tup [.int .i64 0, .int .i64 3], O)
    else if 511 < p then some (.tup [.int .i64 0, .int .i64 3], O)
    else if i < 0 then some (.tup [.int .i64 0, .int .i64 3], O)
    else if 128 ≤ i then some (.tup [.int .i64 0, .int .i64 3], O)
    else some (.tup [.int .i64 (16 + 128 * (p - 1) + i), .int .i64 0], O)
  | _ => none
theorem aWordS_ok : SpOk Tryz.prog 93 aWordS := by
  intro args O r O' h S
  unfold aWordS at h
  repeat' (split at h)
  all_goals first | (cases h; done) | skip
  all_goals
    simp only [Option.some.injEq, Prod.mk.injEq] at h
    obtain ⟨rfl, rfl⟩ := h
    refine bodyA (tabC_cons placeS_ok (tabC_nil _)) (n := 0) F93_code ?_
    try simp only [acc, accZ, errA] at *
    simp (disch := first | decide | omega | assumption | exact isS_of (by assumption) | exact ixok_of (by assumption) (by omega) | exact slOk_of (by assumption) | exact bufOk_of (by assumption) (by omega) | exact ixok_ofR (by assumption) (by omega) | exact slOk_ofR (by assumption) | exact lenOk_of (by assumption) (by omega) | exact ixok_of8 (by assumption) (by omega) | exact ixok_ofW (by assumption) (by omega) | exact slOk_ofW (by assumption) | fail) only [F93, RAs, RBs, RCs, RDs, REs, RFs, RGs, RHs, RIs, RJs, RKs, RLs, RRt, Nat.reduceLT, Nat.reduceEqDiff, Nat.reduceAdd, Nat.reduceSub, RXa, RXb, RXc, methR, Int.ofNat_zero, lowL_all, eq_self, take_len, snapL_W, drop_all, List.append_nil, slc_b0, slB0_s, RSl, RSr, RSm, RSx, acc, accZ, errA, placeS, *]

/-- descend.At -/
def dAtS : Sp := fun args O =>
  match args with
  | [.agg [.int .i64 p, .int .i64 t], .int .i64 g] =>
    match dvalidS [.agg [.int .i64 p, .int .i64 t]] O with
    | some (.bool false, Oa) => some (.tup [.int .i64 0, .int .i64 2], Oa)
    | some (.bool true, Oa) =>
      if g < 0 then some (.tup [.int .i64 0, .int .i64 3], Oa)
      else if p < g then some (.tup [.int .i64 0, .int .i64 3], Oa)
      else if g = 0 then some (.tup [.int .i64 8, .int .i64 0], Oa)
      else
        match aWordS [.int .i64 g, .int .i64 0] Oa with
        | some (.tup [.int .i64 w, .int .i64 e], Ob) => some (.tup [.int .i64 w, .int .i64 e], Ob)
        | _ => none
    | _ => none
  | _ => none
theorem dAtS_ok : SpOk Tryz.prog 45 dAtS := by
  intro args O r O' h S
  unfold dAtS at h
  repeat' (split at h)
  all_goals first | (cases h; done) | skip
  all_goals
    simp only [Option.some.injEq, Prod.mk.injEq] at h
    obtain ⟨rfl, rfl⟩ := h
    refine bodyA (tabC_cons dvalidS_ok (tabC_cons aWordS_ok (tabC_nil _))) (n := 0) F45_code ?_
    try simp only [acc, accZ, errA] at *
    simp (disch := first | decide | omega | assumption | exact isS_of (by assumption) | exact ixok_of (by assumption) (by omega) | exact slOk_of (by assumption) | exact bufOk_of (by assumption) (by omega) | exact ixok_ofR (by assumption) (by omega) | exact slOk_ofR (by assumption) | exact lenOk_of (by assumption) (by omega) | exact ixok_of8 (by assumption) (by omega) | exact ixok_ofW (by assumption) (by omega) | exact slOk_ofW (by assumption) | fail) only [F45, RAs, RBs, RCs, RDs, REs, RFs, RGs, RHs, RIs, RJs, RKs, RLs, RRt, Nat.reduceLT, Nat.reduceEqDiff, Nat.reduceAdd, Nat.reduceSub, RXa, RXb, RXc, methR, Int.ofNat_zero, lowL_all, eq_self, take_len, snapL_W, drop_all, List.append_nil, slc_b0, slB0_s, RSl, RSr, RSm, RSx, acc, accZ, errA, *]

/-- descend.Of -/
def dOfS : Sp := fun args O =>
  match args with
  | [.agg [.int .i64 p, .int .i64 t], .int .i64 g] =>
    match dAtS [.agg [.int .i64 p, .int .i64 t], .int .i64 g] O with
    | some (.tup [.int .i64 w, .int .i64 e], Oa) =>
      if e = 0 then (if 0 ≤ w ∧ w ≤ 100000 then some (.tup [.int .i64 (w + 3), .int .i64 0], Oa) else none) else some (.tup [.int .i64 0, .int .i64 e], Oa)
    | _ => none
  | _ => none
theorem dOfS_ok : SpOk Tryz.prog 46 dOfS := by
  intro args O r O' h S
  unfold dOfS at h
  repeat' (split at h)
  all_goals first | (cases h; done) | skip
  all_goals
    simp only [Option.some.injEq, Prod.mk.injEq] at h
    obtain ⟨rfl, rfl⟩ := h
    refine bodyA (tabC_cons dAtS_ok (tabC_nil _)) (n := 0) F46_code ?_
    try simp only [acc, accZ, errA] at *
    simp (disch := first | decide | omega | assumption | exact isS_of (by assumption) | exact ixok_of (by assumption) (by omega) | exact slOk_of (by assumption) | exact bufOk_of (by assumption) (by omega) | exact ixok_ofR (by assumption) (by omega) | exact slOk_ofR (by assumption) | exact lenOk_of (by assumption) (by omega) | exact ixok_of8 (by assumption) (by omega) | exact ixok_ofW (by assumption) (by omega) | exact slOk_ofW (by assumption) | fail) only [F46, RAs, RBs, RCs, RDs, REs, RFs, RGs, RHs, RIs, RJs, RKs, RLs, RRt, Nat.reduceLT, Nat.reduceEqDiff, Nat.reduceAdd, Nat.reduceSub, RXa, RXb, RXc, methR, Int.ofNat_zero, lowL_all, eq_self, take_len, snapL_W, drop_all, List.append_nil, slc_b0, slB0_s, RSl, RSr, RSm, RSx, acc, accZ, errA, *]

/-- arena.Arena.Root -/
def arootS : Sp := fun args O =>
  match args with
  | [.ref 0 ka 0] =>
    match anoneS [.ref 0 ka 0] O with
    | some (.bool false, Oa) =>
      match Oa[ka]? with
      | some (.arr [.ref 0 kc 0]) => match wgetS [.agg [.ref 0 kc 0], .int .i64 3] Oa with
        | some (.int .u64 v, Ob) => if 0 ≤ v ∧ v ≤ 1000 then some (.int .i64 v, Ob) else none
        | _ => none
      | _ => none
    | _ => none
  | _ => none
theorem arootS_ok : SpOk Tryz.prog 18 arootS := by
  intro args O r O' h S
  unfold arootS at h
  repeat' (split at h)
  all_goals first | (cases h; done) | skip
  all_goals
    simp only [Option.some.injEq, Prod.mk.injEq] at h
    obtain ⟨rfl, rfl⟩ := h
    refine bodyA (tabC_cons anoneS_ok (tabC_cons wgetS_ok (tabC_nil _))) (n := 0) F18_code ?_
    try simp only [acc, accZ, errA] at *
    simp (disch := first | decide | omega | assumption | exact isS_of (by assumption) | exact ixok_of (by assumption) (by omega) | exact slOk_of (by assumption) | exact bufOk_of (by assumption) (by omega) | exact ixok_ofR (by assumption) (by omega) | exact slOk_ofR (by assumption) | exact lenOk_of (by assumption) (by omega) | exact ixok_of8 (by assumption) (by omega) | exact ixok_ofW (by assumption) (by omega) | exact slOk_ofW (by assumption) | fail) only [F18, RAs, RBs, RCs, RDs, REs, RFs, RGs, RHs, RIs, RJs, RKs, RLs, RRt, Nat.reduceLT, Nat.reduceEqDiff, Nat.reduceAdd, Nat.reduceSub, RXa, RXb, RXc, methR, Int.ofNat_zero, lowL_all, eq_self, take_len, snapL_W, drop_all, List.append_nil, slc_b0, slB0_s, RSl, RSr, RSm, RSx, acc, accZ, errA, *]

/-- arena.Arena.Counts: the loop 0 -/
def acountsG (ka : Nat) : Nat → Int → Int → Int → Int → Mo → Option (AV × Mo)
  | 0, q, f, u, d, O => none
  | m + 1, q, f, u, d, O => (
    (if 0 ≤ q ∧ q ≤ 1000 ∧ 0 ≤ f ∧ f ≤ 1000 ∧ 0 ≤ u ∧ u ≤ 1000 ∧ 0 ≤ d ∧ d ≤ 1000 then (
    (match apagesS [.ref 0 ka 0] O with
    | some (.int .i64 pg, O1) => (
    if q ≤ pg then (
      (match akindS [.ref 0 ka 0, .int .i64 q] O1 with
      | some (.int .u64 k1, O2) => (
      if k1 = 0 then acountsG ka m (q + 1) (f + 1) u d O2
      else (
        (match akindS [.ref 0 ka 0, .int .i64 q] O2 with
        | some (.int .u64 k2, O3) => (
        if k2 = 255 then acountsG ka m (q + 1) f u (d + 1) O3
        else (
          (match ausedS [.ref 0 ka 0, .int .i64 q] O3 with
          | some (.bool b, O4) => (
          match b with
          | true => acountsG ka m (q + 1) f (u + 1) d O4
          | false => acountsG ka m (q + 1) f u d O4)
          | _ => none)
        ))
        | _ => none)
      ))
      | _ => none)
    )
    else (
      (match apagesS [.ref 0 ka 0] O1 with
      | some (.int .i64 p2, O5) => (
      some (.tup [.int .i64 p2, .int .i64 f, .int .i64 u, .int .i64 d], O5))
      | _ => none)
    ))
    | _ => none))
    else none)
  )
theorem acountsG_loop {S : Ms} (ka : Nat)  : ∀ (n : Nat) (q f u d : Int) (O : Mo) (env : Env) (M : Nat) (r : AV) (O' : Mo) (h : acountsG ka n q f u d O = some (r, O')) (hM : n < M) (e0 : env 0 = .ref 0 ka 0) (e1 : env 3 = .int .i64 f) (e2 : env 4 = .int .i64 u) (e3 : env 5 = .int .i64 d) (e4 : env 6 = .int .i64 q),
    W19x0 cfgA (tabC [(63, anoneS), (65, apagesS), (66, akindS), (67, ausedS)]) 100000 (loopN (exec cfgA (tabC [(63, anoneS), (65, apagesS), (66, akindS), (67, ausedS)]) 100000 B19x0) [] M ⟨leOf 40 env, O, S ++ [[]]⟩) = some (r, O', S) := by
  intro n
  induction n with
  | zero =>
    intro q f u d O env M r O' h hM e0 e1 e2 e3 e4
    unfold acountsG at h
    first | (cases h; done) | (dsimp only at h; cases h; done) | (split at h <;> first | (cases h; done) | (exfalso; omega))
  | succ n ih =>
    intro q f u d O env M r O' h hM e0 e1 e2 e3 e4
    obtain ⟨M, rfl⟩ : ∃ M', M = M' + 1 := ⟨M - 1, by omega⟩
    unfold acountsG at h
    repeat' (split at h)
    all_goals first | (cases h; done) | (dsimp only at h; cases h; done) | (exfalso; omega) | skip
    all_goals
      try dsimp only at h
      try simp only [acc, accZ, errA] at *
      first
        | (have hg_ : acountsG ka n _ _ _ _ _ = _ := h
           clear hg_
           simp (disch := first | decide | omega | assumption | exact isS_of (by assumption) | exact ixok_of (by assumption) (by omega) | exact slOk_of (by assumption) | exact bufOk_of (by assumption) (by omega) | exact ixok_ofR (by assumption) (by omega) | exact slOk_ofR (by assumption) | exact lenOk_of (by assumption) (by omega) | exact ixok_of8 (by assumption) (by omega) | exact ixok_ofW (by assumption) (by omega) | exact slOk_ofW (by assumption) | fail) only [loop_unf, loopK_N, loopK_E, loopK_R, RAs, RBs, RCs, RDs, REs, RFs, RGs, RHs, RIs, RJs, RKs, RLs, RRt, Nat.reduceLT, Nat.reduceEqDiff, Nat.reduceAdd, Nat.reduceSub, RXa, RXb, RXc, methR, Int.ofNat_zero, lowL_all, eq_self, take_len, snapL_W, drop_all, List.append_nil, slc_b0, slB0_s, RSl, RSr, RSm, RSx, *]
           refine ih _ _ _ _ _ _ _ _ _ h (by omega) ?_ ?_ ?_ ?_ ?_
           all_goals simp (disch := first | decide | omega | assumption | exact isS_of (by assumption) | exact ixok_of (by assumption) (by omega) | exact slOk_of (by assumption) | exact bufOk_of (by assumption) (by omega) | exact ixok_ofR (by assumption) (by omega) | exact slOk_ofR (by assumption) | exact lenOk_of (by assumption) (by omega) | exact ixok_of8 (by assumption) (by omega) | exact ixok_ofW (by assumption) (by omega) | exact slOk_ofW (by assumption) | fail) only [RAs, RBs, RCs, RDs, REs, RFs, RGs, RHs, RIs, RJs, RKs, RLs, RRt, Nat.reduceLT, Nat.reduceEqDiff, Nat.reduceAdd, Nat.reduceSub, RXa, RXb, RXc, methR, Int.ofNat_zero, lowL_all, eq_self, take_len, snapL_W, drop_all, List.append_nil, slc_b0, slB0_s, RSl, RSr, RSm, RSx, *])
        | (simp only [Option.some.injEq, Prod.mk.injEq] at h
           obtain ⟨rfl, rfl⟩ := h
           simp (disch := first | decide | omega | assumption | exact isS_of (by assumption) | exact ixok_of (by assumption) (by omega) | exact slOk_of (by assumption) | exact bufOk_of (by assumption) (by omega) | exact ixok_ofR (by assumption) (by omega) | exact slOk_ofR (by assumption) | exact lenOk_of (by assumption) (by omega) | exact ixok_of8 (by assumption) (by omega) | exact ixok_ofW (by assumption) (by omega) | exact slOk_ofW (by assumption) | fail) only [W19x0, loop_unf, loopK_N, loopK_E, loopK_R, RAs, RBs, RCs, RDs, REs, RFs, RGs, RHs, RIs, RJs, RKs, RLs, RRt, Nat.reduceLT, Nat.reduceEqDiff, Nat.reduceAdd, Nat.reduceSub, RXa, RXb, RXc, methR, Int.ofNat_zero, lowL_all, eq_self, take_len, snapL_W, drop_all, List.append_nil, slc_b0, slB0_s, RSl, RSr, RSm, RSx, *])

attribute [local irreducible] acountsG
/-- arena.Arena.Counts -/
def acountsS : Sp := fun args O =>
  match args with
  | [.ref 0 ka 0] => (
    (match anoneS [.ref 0 ka 0] O with
    | some (.bool false, O1) => (
    acountsG ka 1002 1 0 0 0 O1)
    | _ => none)
  )
  | _ => none
theorem acountsS_ok : SpOk Tryz.prog 19 acountsS := by
  intro args O r O' h S
  unfold acountsS at h
  repeat' (split at h)
  all_goals first | (cases h; done) | skip
  all_goals
    try simp only [acc, accZ, errA] at *
    first
      | (simp only [Option.some.injEq, Prod.mk.injEq] at h
         obtain ⟨rfl, rfl⟩ := h
         refine bodyA (tabC_cons anoneS_ok (tabC_cons apagesS_ok (tabC_cons akindS_ok (tabC_cons ausedS_ok (tabC_nil _))))) (n := 100000) F19_code ?_
         simp (disch := first | decide | omega | assumption | exact isS_of (by assumption) | exact ixok_of (by assumption) (by omega) | exact slOk_of (by assumption) | exact bufOk_of (by assumption) (by omega) | exact ixok_ofR (by assumption) (by omega) | exact slOk_ofR (by assumption) | exact lenOk_of (by assumption) (by omega) | exact ixok_of8 (by assumption) (by omega) | exact ixok_ofW (by assumption) (by omega) | exact slOk_ofW (by assumption) | fail) only [F19, RAs, RBs, RCs, RDs, REs, RFs, RGs, RHs, RIs, RJs, RKs, RLs, RRt, Nat.reduceLT, Nat.reduceEqDiff, Nat.reduceAdd, Nat.reduceSub, RXa, RXb, RXc, methR, Int.ofNat_zero, lowL_all, eq_self, take_len, snapL_W, drop_all, List.append_nil, slc_b0, slB0_s, RSl, RSr, RSm, RSx, acc, accZ, errA, *])
      | (refine bodyA (tabC_cons anoneS_ok (tabC_cons apagesS_ok (tabC_cons akindS_ok (tabC_cons ausedS_ok (tabC_nil _))))) (n := 100000) F19_code ?_
         simp (disch := first | decide | omega | assumption | exact isS_of (by assumption) | exact ixok_of (by assumption) (by omega) | exact slOk_of (by assumption) | exact bufOk_of (by assumption) (by omega) | exact ixok_ofR (by assumption) (by omega) | exact slOk_ofR (by assumption) | exact lenOk_of (by assumption) (by omega) | exact ixok_of8 (by assumption) (by omega) | exact ixok_ofW (by assumption) (by omega) | exact slOk_ofW (by assumption) | fail) only [F19, RAs, RBs, RCs, RDs, REs, RFs, RGs, RHs, RIs, RJs, RKs, RLs, RRt, Nat.reduceLT, Nat.reduceEqDiff, Nat.reduceAdd, Nat.reduceSub, RXa, RXb, RXc, methR, Int.ofNat_zero, lowL_all, eq_self, take_len, snapL_W, drop_all, List.append_nil, slc_b0, slB0_s, RSl, RSr, RSm, RSx, e_loop, acc, accZ, errA, *]
         refine (fin_skip _ _ _ _ _).trans ?_
         refine acountsG_loop _ _ _ _ _ _ _ _ _ _ _ h (by omega) ?_ ?_ ?_ ?_ ?_
         all_goals simp (disch := first | decide | omega | assumption | exact isS_of (by assumption) | exact ixok_of (by assumption) (by omega) | exact slOk_of (by assumption) | exact bufOk_of (by assumption) (by omega) | exact ixok_ofR (by assumption) (by omega) | exact slOk_ofR (by assumption) | exact lenOk_of (by assumption) (by omega) | exact ixok_of8 (by assumption) (by omega) | exact ixok_ofW (by assumption) (by omega) | exact slOk_ofW (by assumption) | fail) only [RAs, RBs, RCs, RDs, REs, RFs, RGs, RHs, RIs, RJs, RKs, RLs, RRt, Nat.reduceLT, Nat.reduceEqDiff, Nat.reduceAdd, Nat.reduceSub, RXa, RXb, RXc, methR, Int.ofNat_zero, lowL_all, eq_self, take_len, snapL_W, drop_all, List.append_nil, slc_b0, slB0_s, RSl, RSr, RSm, RSx, *])

/-- arena.Arena.list: the loop 0 -/
def alistG (ka : Nat) (kd : Int) : Nat → AV → Int → Mo → Option (AV × Mo)
  | 0, lv, nx, O => none
  | m + 1, lv, nx, O =>
    if nx = 0 then
      match lv with
      | .nils => some (.tup [.nils, .bool true], O)
      | .bref 0 k o l t => some (.tup [.bref 0 k o l t, .bool true], O)
      | _ => none
    else (
      (match apagesS [.ref 0 ka 0] O with
      | some (.int .i64 pg, O1) => (
      (if 0 ≤ pg ∧ pg ≤ 1000 then (
      (if 1 ≤ nx ∧ nx ≤ pg then (
      (match rdI O1 lv with
      | some (l) => (
      (if l.length ≤ 1000 then (
      (match apagesS [.ref 0 ka 0] O1 with
      | some (.int .i64 p2, O2) => (
      (if (l.length : Int) ≠ p2 then (
      (match akindS [.ref 0 ka 0, .int .i64 nx] O2 with
      | some (.int .u64 k1, O3) => (
      (if k1 = kd then (
      (match growI O3 lv [nx] with
      | some ((lv2, Od)) => (
      (match (Od)[ka]? with
      | some (.arr [.ref 0 kc 0]) => (
      (match wgetS [.agg [.ref 0 kc 0], .int .i64 (16 + 128 * (nx - 1) + 10)] (Od) with
      | some (.int .u64 n2, O4) => (
      alistG ka kd m lv2 n2 O4)
      | _ => none))
      | _ => none))
      | _ => none))
      else none))
      | _ => none))
      else none))
      | _ => none))
      else none))
      | _ => none))
      else none))
      else none))
      | _ => none)
    )
theorem alistG_loop {S : Ms} (ka : Nat) (kd : Int)  : ∀ (n : Nat) (lv : AV) (nx : Int) (O : Mo) (env : Env) (M : Nat) (r : AV) (O' : Mo) (h : alistG ka kd n lv nx O = some (r, O')) (hM : n < M) (e0 : env 0 = .ref 0 ka 0) (e1 : env 2 = .int .u64 kd) (e2 : env 8 = lv) (e3 : env 9 = .int .u64 nx),
    W90x0 cfgA (tabC [(64, wgetS), (65, apagesS), (66, akindS), (60, placeS)]) 100000 (loopN (exec cfgA (tabC [(64, wgetS), (65, apagesS), (66, akindS), (60, placeS)]) 100000 B90x0) [] M ⟨leOf 52 env, O, S ++ [[]]⟩) = some (r, O', S) := by
  intro n
  induction n with
  | zero =>
    intro lv nx O env M r O' h hM e0 e1 e2 e3
    unfold alistG at h
    first | (cases h; done) | (dsimp only at h; cases h; done) | (split at h <;> first | (cases h; done) | (exfalso; omega))
  | succ n ih =>
    intro lv nx O env M r O' h hM e0 e1 e2 e3
    obtain ⟨M, rfl⟩ : ∃ M', M = M' + 1 := ⟨M - 1, by omega⟩
    unfold alistG at h
    repeat' (split at h)
    all_goals first | (cases h; done) | (dsimp only at h; cases h; done) | (exfalso; omega) | skip
    all_goals
      try dsimp only at h
      try simp only [acc, accZ, errA] at *
      first
        | (have hg_ : alistG ka kd n _ _ _ = _ := h
           clear hg_
           simp (disch := first | decide | omega | assumption | exact isS_of (by assumption) | exact ixok_of (by assumption) (by omega) | exact slOk_of (by assumption) | exact bufOk_of (by assumption) (by omega) | exact ixok_ofR (by assumption) (by omega) | exact slOk_ofR (by assumption) | exact lenOk_of (by assumption) (by omega) | exact ixok_of8 (by assumption) (by omega) | exact ixok_ofW (by assumption) (by omega) | exact slOk_ofW (by assumption) | fail) only [loop_unf, loopK_N, loopK_E, loopK_R, RAs, RBs, RCs, RDs, REs, RFs, RGs, RHs, RIs, RJs, RKs, RLs, RRt, Nat.reduceLT, Nat.reduceEqDiff, Nat.reduceAdd, Nat.reduceSub, RXa, RXb, RXc, methR, Int.ofNat_zero, lowL_all, eq_self, take_len, snapL_W, drop_all, List.append_nil, slc_b0, slB0_s, RSl, RSr, RSm, RSx, placeS, *]
           refine ih _ _ _ _ _ _ _ h (by omega) ?_ ?_ ?_ ?_
           all_goals simp (disch := first | decide | omega | assumption | exact isS_of (by assumption) | exact ixok_of (by assumption) (by omega) | exact slOk_of (by assumption) | exact bufOk_of (by assumption) (by omega) | exact ixok_ofR (by assumption) (by omega) | exact slOk_ofR (by assumption) | exact lenOk_of (by assumption) (by omega) | exact ixok_of8 (by assumption) (by omega) | exact ixok_ofW (by assumption) (by omega) | exact slOk_ofW (by assumption) | fail) only [RAs, RBs, RCs, RDs, REs, RFs, RGs, RHs, RIs, RJs, RKs, RLs, RRt, Nat.reduceLT, Nat.reduceEqDiff, Nat.reduceAdd, Nat.reduceSub, RXa, RXb, RXc, methR, Int.ofNat_zero, lowL_all, eq_self, take_len, snapL_W, drop_all, List.append_nil, slc_b0, slB0_s, RSl, RSr, RSm, RSx, *])
        | (simp only [Option.some.injEq, Prod.mk.injEq] at h
           obtain ⟨rfl, rfl⟩ := h
           simp (disch := first | decide | omega | assumption | exact isS_of (by assumption) | exact ixok_of (by assumption) (by omega) | exact slOk_of (by assumption) | exact bufOk_of (by assumption) (by omega) | exact ixok_ofR (by assumption) (by omega) | exact slOk_ofR (by assumption) | exact lenOk_of (by assumption) (by omega) | exact ixok_of8 (by assumption) (by omega) | exact ixok_ofW (by assumption) (by omega) | exact slOk_ofW (by assumption) | fail) only [W90x0, loop_unf, loopK_N, loopK_E, loopK_R, RAs, RBs, RCs, RDs, REs, RFs, RGs, RHs, RIs, RJs, RKs, RLs, RRt, Nat.reduceLT, Nat.reduceEqDiff, Nat.reduceAdd, Nat.reduceSub, RXa, RXb, RXc, methR, Int.ofNat_zero, lowL_all, eq_self, take_len, snapL_W, drop_all, List.append_nil, slc_b0, slB0_s, RSl, RSr, RSm, RSx, placeS, *])

attribute [local irreducible] alistG
/-- arena.Arena.list -/
def alistS : Sp := fun args O =>
  match args with
  | [.ref 0 ka 0, .int .i64 fi, .int .u64 kd] => (
    (match O[ka]? with
    | some (.arr [.ref 0 kc 0]) => (
    (match wgetS [.agg [.ref 0 kc 0], .int .i64 fi] O with
    | some (.int .u64 n2, O1) => (
    alistG ka kd 1002 .nils n2 O1)
    | _ => none))
    | _ => none)
  )
  | _ => none
theorem alistS_ok : SpOk Tryz.prog 90 alistS := by
  intro args O r O' h S
  unfold alistS at h
  repeat' (split at h)
  all_goals first | (cases h; done) | skip
  all_goals
    try simp only [acc, accZ, errA] at *
    first
      | (simp only [Option.some.injEq, Prod.mk.injEq] at h
         obtain ⟨rfl, rfl⟩ := h
         refine bodyA (tabC_cons wgetS_ok (tabC_cons apagesS_ok (tabC_cons akindS_ok (tabC_cons placeS_ok (tabC_nil _))))) (n := 100000) F90_code ?_
         simp (disch := first | decide | omega | assumption | exact isS_of (by assumption) | exact ixok_of (by assumption) (by omega) | exact slOk_of (by assumption) | exact bufOk_of (by assumption) (by omega) | exact ixok_ofR (by assumption) (by omega) | exact slOk_ofR (by assumption) | exact lenOk_of (by assumption) (by omega) | exact ixok_of8 (by assumption) (by omega) | exact ixok_ofW (by assumption) (by omega) | exact slOk_ofW (by assumption) | fail) only [F90, RAs, RBs, RCs, RDs, REs, RFs, RGs, RHs, RIs, RJs, RKs, RLs, RRt, Nat.reduceLT, Nat.reduceEqDiff, Nat.reduceAdd, Nat.reduceSub, RXa, RXb, RXc, methR, Int.ofNat_zero, lowL_all, eq_self, take_len, snapL_W, drop_all, List.append_nil, slc_b0, slB0_s, RSl, RSr, RSm, RSx, acc, accZ, errA, placeS, *])
      | (refine bodyA (tabC_cons wgetS_ok (tabC_cons apagesS_ok (tabC_cons akindS_ok (tabC_cons placeS_ok (tabC_nil _))))) (n := 100000) F90_code ?_
         simp (disch := first | decide | omega | assumption | exact isS_of (by assumption) | exact ixok_of (by assumption) (by omega) | exact slOk_of (by assumption) | exact bufOk_of (by assumption) (by omega) | exact ixok_ofR (by assumption) (by omega) | exact slOk_ofR (by assumption) | exact lenOk_of (by assumption) (by omega) | exact ixok_of8 (by assumption) (by omega) | exact ixok_ofW (by assumption) (by omega) | exact slOk_ofW (by assumption) | fail) only [F90, RAs, RBs, RCs, RDs, REs, RFs, RGs, RHs, RIs, RJs, RKs, RLs, RRt, Nat.reduceLT, Nat.reduceEqDiff, Nat.reduceAdd, Nat.reduceSub, RXa, RXb, RXc, methR, Int.ofNat_zero, lowL_all, eq_self, take_len, snapL_W, drop_all, List.append_nil, slc_b0, slB0_s, RSl, RSr, RSm, RSx, e_loop, acc, accZ, errA, placeS, *]
         refine (fin_skip _ _ _ _ _).trans ?_
         refine alistG_loop _ _ _ _ _ _ _ _ _ _ h (by omega) ?_ ?_ ?_ ?_
         all_goals simp (disch := first | decide | omega | assumption | exact isS_of (by assumption) | exact ixok_of (by assumption) (by omega) | exact slOk_of (by assumption) | exact bufOk_of (by assumption) (by omega) | exact ixok_ofR (by assumption) (by omega) | exact slOk_ofR (by assumption) | exact lenOk_of (by assumption) (by omega) | exact ixok_of8 (by assumption) (by omega) | exact ixok_ofW (by assumption) (by omega) | exact slOk_ofW (by assumption) | fail) only [RAs, RBs, RCs, RDs, REs, RFs, RGs, RHs, RIs, RJs, RKs, RLs, RRt, Nat.reduceLT, Nat.reduceEqDiff, Nat.reduceAdd, Nat.reduceSub, RXa, RXb, RXc, methR, Int.ofNat_zero, lowL_all, eq_self, take_len, snapL_W, drop_all, List.append_nil, slc_b0, slB0_s, RSl, RSr, RSm, RSx, *])

/-- arena.Arena.Read: the loop 0 -/
def areadG (ka : Nat) (p : Int) (zs : List AV) : Nat → Int → List AV → Mo → Option (AV × Mo)
  | 0, i, cs, O => none
  | m + 1, i, cs, O => (
    (if cs.length = 128 then (
    if i < 128 then (
      (if 0 ≤ i then (
      (match O[ka]? with
      | some (.arr [.ref 0 kc 0]) => (
      (match wgetS [.agg [.ref 0 kc 0], .int .i64 (16 + 128 * (p - 1) + i)] O with
      | some (.int .u64 v, O1) => (
      areadG ka p zs m (i + 1) (cs.set i.toNat (.int .u64 v)) O1)
      | _ => none))
      | _ => none))
      else none)
    )
    else (
      (if cs.all isW = true then (
      some (.tup [.agg cs, .int .i64 0], O))
      else none)
    ))
    else none)
  )
theorem areadG_loop {S : Ms} (ka : Nat) (p : Int) (zs : List AV) (h0 : zs.length = 128) (h1 : 1 ≤ p) (h2 : p ≤ 511) : ∀ (n : Nat) (i : Int) (cs : List AV) (O : Mo) (env : Env) (M : Nat) (r : AV) (O' : Mo) (h : areadG ka p zs n i cs O = some (r, O')) (hM : n < M) (e0 : env 0 = .ref 0 ka 0) (e1 : env 1 = .int .i64 p) (e2 : env 4 = .ref (S.length + 1) 0 0) (e3 : env 6 = .ref (S.length + 1) 1 0) (e4 : env 16 = .int .i64 i),
    W20x0 cfgA (tabC [(68, athereS), (60, placeS), (64, wgetS)]) 100000 (loopN (exec cfgA (tabC [(68, athereS), (60, placeS), (64, wgetS)]) 100000 B20x0) [] M ⟨leOf 31 env, O, S ++ [[ABlk.arr zs, ABlk.arr cs]]⟩) = some (r, O', S) := by
  intro n
  induction n with
  | zero =>
    intro i cs O env M r O' h hM e0 e1 e2 e3 e4
    unfold areadG at h
    first | (cases h; done) | (dsimp only at h; cases h; done) | (split at h <;> first | (cases h; done) | (exfalso; omega))
  | succ n ih =>
    intro i cs O env M r O' h hM e0 e1 e2 e3 e4
    obtain ⟨M, rfl⟩ : ∃ M', M = M' + 1 := ⟨M - 1, by omega⟩
    unfold areadG at h
    repeat' (split at h)
    all_goals first | (cases h; done) | (dsimp only at h; cases h; done) | (exfalso; omega) | skip
    all_goals
      try dsimp only at h
      try simp only [acc, accZ, errA] at *
      first
        | (have hg_ : areadG ka p zs n _ _ _ = _ := h
           clear hg_
           simp (disch := first | decide | omega | assumption | exact isS_of (by assumption) | exact ixok_of (by assumption) (by omega) | exact slOk_of (by assumption) | exact bufOk_of (by assumption) (by omega) | exact ixok_ofR (by assumption) (by omega) | exact slOk_ofR (by assumption) | exact lenOk_of (by assumption) (by omega) | exact ixok_of8 (by assumption) (by omega) | exact ixok_ofW (by assumption) (by omega) | exact slOk_ofW (by assumption) | fail) only [loop_unf, loopK_N, loopK_E, loopK_R, RAs, RBs, RCs, RDs, REs, RFs, RGs, RHs, RIs, RJs, RKs, RLs, RRt, Nat.reduceLT, Nat.reduceEqDiff, Nat.reduceAdd, Nat.reduceSub, RXa, RXb, RXc, methR, Int.ofNat_zero, lowL_all, eq_self, take_len, snapL_W, drop_all, List.append_nil, slc_b0, slB0_s, RSl, RSr, RSm, RSx, placeS, *]
           refine ih _ _ _ _ _ _ _ h (by omega) ?_ ?_ ?_ ?_ ?_
           all_goals simp (disch := first | decide | omega | assumption | exact isS_of (by assumption) | exact ixok_of (by assumption) (by omega) | exact slOk_of (by assumption) | exact bufOk_of (by assumption) (by omega) | exact ixok_ofR (by assumption) (by omega) | exact slOk_ofR (by assumption) | exact lenOk_of (by assumption) (by omega) | exact ixok_of8 (by assumption) (by omega) | exact ixok_ofW (by assumption) (by omega) | exact slOk_ofW (by assumption) | fail) only [RAs, RBs, RCs, RDs, REs, RFs, RGs, RHs, RIs, RJs, RKs, RLs, RRt, Nat.reduceLT, Nat.reduceEqDiff, Nat.reduceAdd, Nat.reduceSub, RXa, RXb, RXc, methR, Int.ofNat_zero, lowL_all, eq_self, take_len, snapL_W, drop_all, List.append_nil, slc_b0, slB0_s, RSl, RSr, RSm, RSx, *])
        | (simp only [Option.some.injEq, Prod.mk.injEq] at h
           obtain ⟨rfl, rfl⟩ := h
           simp (disch := first | decide | omega | assumption | exact isS_of (by assumption) | exact ixok_of (by assumption) (by omega) | exact slOk_of (by assumption) | exact bufOk_of (by assumption) (by omega) | exact ixok_ofR (by assumption) (by omega) | exact slOk_ofR (by assumption) | exact lenOk_of (by assumption) (by omega) | exact ixok_of8 (by assumption) (by omega) | exact ixok_ofW (by assumption) (by omega) | exact slOk_ofW (by assumption) | fail) only [W20x0, loop_unf, loopK_N, loopK_E, loopK_R, RAs, RBs, RCs, RDs, REs, RFs, RGs, RHs, RIs, RJs, RKs, RLs, RRt, Nat.reduceLT, Nat.reduceEqDiff, Nat.reduceAdd, Nat.reduceSub, RXa, RXb, RXc, methR, Int.ofNat_zero, lowL_all, eq_self, take_len, snapL_W, drop_all, List.append_nil, slc_b0, slB0_s, RSl, RSr, RSm, RSx, placeS, *])

attribute [local irreducible] areadG
/-- arena.Arena.Read -/
def areadS : Sp := fun args O =>
  match args with
  | [.ref 0 ka 0, .int .i64 p] => (
    (match athereS [.ref 0 ka 0, .int .i64 p] O with
    | some (.int .i64 e, O1) => (
    (if e = 0 then (
    (if 1 ≤ p ∧ p ≤ 511 then (
    (if (List.replicate 128 (AV.int .u64 0)).length = 128 then (
    areadG ka p (List.replicate 128 (.int .u64 0)) 130 0 (List.replicate 128 (.int .u64 0)) O1)
    else none))
    else none))
    else none))
    | _ => none)
  )
  | _ => none
theorem areadS_ok : SpOk Tryz.prog 20 areadS := by
  intro args O r O' h S
  unfold areadS at h
  repeat' (split at h)
  all_goals first | (cases h; done) | skip
  all_goals
    try simp only [acc, accZ, errA] at *
    first
      | (simp only [Option.some.injEq, Prod.mk.injEq] at h
         obtain ⟨rfl, rfl⟩ := h
         refine bodyA (tabC_cons athereS_ok (tabC_cons placeS_ok (tabC_cons wgetS_ok (tabC_nil _)))) (n := 100000) F20_code ?_
         simp (disch := first | decide | omega | assumption | exact isS_of (by assumption) | exact ixok_of (by assumption) (by omega) | exact slOk_of (by assumption) | exact bufOk_of (by assumption) (by omega) | exact ixok_ofR (by assumption) (by omega) | exact slOk_ofR (by assumption) | exact lenOk_of (by assumption) (by omega) | exact ixok_of8 (by assumption) (by omega) | exact ixok_ofW (by assumption) (by omega) | exact slOk_ofW (by assumption) | fail) only [F20, RAs, RBs, RCs, RDs, REs, RFs, RGs, RHs, RIs, RJs, RKs, RLs, RRt, Nat.reduceLT, Nat.reduceEqDiff, Nat.reduceAdd, Nat.reduceSub, RXa, RXb, RXc, methR, Int.ofNat_zero, lowL_all, eq_self, take_len, snapL_W, drop_all, List.append_nil, slc_b0, slB0_s, RSl, RSr, RSm, RSx, acc, accZ, errA, placeS, *])
      | (refine bodyA (tabC_cons athereS_ok (tabC_cons placeS_ok (tabC_cons wgetS_ok (tabC_nil _)))) (n := 100000) F20_code ?_
         simp (disch := first | decide | omega | assumption | exact isS_of (by assumption) | exact ixok_of (by assumption) (by omega) | exact slOk_of (by assumption) | exact bufOk_of (by assumption) (by omega) | exact ixok_ofR (by assumption) (by omega) | exact slOk_ofR (by assumption) | exact lenOk_of (by assumption) (by omega) | exact ixok_of8 (by assumption) (by omega) | exact ixok_ofW (by assumption) (by omega) | exact slOk_ofW (by assumption) | fail) only [F20, RAs, RBs, RCs, RDs, REs, RFs, RGs, RHs, RIs, RJs, RKs, RLs, RRt, Nat.reduceLT, Nat.reduceEqDiff, Nat.reduceAdd, Nat.reduceSub, RXa, RXb, RXc, methR, Int.ofNat_zero, lowL_all, eq_self, take_len, snapL_W, drop_all, List.append_nil, slc_b0, slB0_s, RSl, RSr, RSm, RSx, e_loop, acc, accZ, errA, placeS, *]
         refine (fin_skip _ _ _ _ _).trans ?_
         refine areadG_loop _ _ _ (by omega) (by omega) (by omega) _ _ _ _ _ _ _ _ h (by omega) ?_ ?_ ?_ ?_ ?_
         all_goals simp (disch := first | decide | omega | assumption | exact isS_of (by assumption) | exact ixok_of (by assumption) (by omega) | exact slOk_of (by assumption) | exact bufOk_of (by assumption) (by omega) | exact ixok_ofR (by assumption) (by omega) | exact slOk_ofR (by assumption) | exact lenOk_of (by assumption) (by omega) | exact ixok_of8 (by assumption) (by omega) | exact ixok_ofW (by assumption) (by omega) | exact slOk_ofW (by assumption) | fail) only [RAs, RBs, RCs, RDs, REs, RFs, RGs, RHs, RIs, RJs, RKs, RLs, RRt, Nat.reduceLT, Nat.reduceEqDiff, Nat.reduceAdd, Nat.reduceSub, RXa, RXb, RXc, methR, Int.ofNat_zero, lowL_all, eq_self, take_len, snapL_W, drop_all, List.append_nil, slc_b0, slB0_s, RSl, RSr, RSm, RSx, *])

/-- slices.Clone[[]uint64,uint64] -/
def cloneP : Sp := fun args O =>
  match args with
  | [.bref 0 k off n tot] => (
    (match rdS O 1 (.bref 0 k off n tot) with
    | some ((cs, n2)) => (
    (if n2 = n then (
    (if cs.all isW = true then (
    (if 1 ≤ n ∧ n ≤ 65536 then (
    some (.bref 0 O.length 0 n cs.length, O ++ [.buf 1 cs]))
    else none))
    else none))
    else none))
    | _ => none)
  )
  | _ => none
theorem cloneP_ok : SpOk Tryz.prog 69 cloneP := by
  intro args O r O' h S
  unfold cloneP at h
  split at h
  case h_2 => cases h
  rename_i k off n tot
  split at h
  case h_2 => cases h
  rename_i cs n2 h1
  split at h
  case isFalse => cases h
  rename_i h2
  split at h
  case isFalse => cases h
  rename_i h3
  split at h
  case isFalse => cases h
  rename_i h4
  cases h
  subst h2
  have hn : isNilA .slice (.bref 0 k off n2 tot) = some false := by
    have : n2 ≠ 0 := by omega
    simp [isNilA, this]
  refine bodyA (tabC_nil _) (n := 0) F69_code ?_
  have hb : bslC 1 0 false false (some []) O (S ++ [[]]) = some (.emp, O, S ++ [[]]) := rfl
  have hc : conts O (S ++ [[]]) 1 (.bref 0 k off n2 tot) = some (cs, n2) := rdS_conts h1 _
  simp (disch := first | decide | omega | assumption | exact isS_of (by assumption) | exact ixok_of (by assumption) (by omega) | exact slOk_of (by assumption) | exact bufOk_of (by assumption) (by omega) | exact ixok_ofR (by assumption) (by omega) | exact slOk_ofR (by assumption) | exact lenOk_of (by assumption) (by omega) | exact ixok_of8 (by assumption) (by omega) | exact ixok_ofW (by assumption) (by omega) | exact slOk_ofW (by assumption) | fail) only [F69, RAs, RBs, RCs, RDs, REs, RFs, RGs, RHs, RIs, RJs, RKs, RLs, RRt, Nat.reduceLT, Nat.reduceEqDiff, Nat.reduceAdd, Nat.reduceSub, RXa, RXb, RXc, hn, rep0, hb, hc, app_emp_o (by omega : n2 ≤ 1000000) h3]

/-- mem.Mem.Words -/
def mwordsS : Sp := fun args O =>
  match args with
  | [.ref 0 k 0, .int .i64 fr, .int .i64 to] => (
    (match zeroS [.ref 0 k 0] O with
    | some (.bool false, O1) => (
    (if 0 ≤ fr then (
    (if fr ≤ to then (
    (match O1[k]? with
    | some (.arr [.bref 0 k2 0 n tot]) => (
    (if to ≤ (n : Int) then (
    (match cloneP [.bref 0 k2 fr.toNat (to.toNat - fr.toNat) tot] O1 with
    | some (.bref 0 k3 0 n3 t3, O2) => (
    some (.tup [.bref 0 k3 0 n3 t3, .int .i64 0], O2))
    | _ => none))
    else none))
    | _ => none))
    else none))
    else none))
    | _ => none)
  )
  | _ => none
theorem mwordsS_ok : SpOk Tryz.prog 21 mwordsS := by
  intro args O r O' h S
  unfold mwordsS at h
  repeat' (split at h)
  all_goals first | (cases h; done) | skip
  all_goals
    simp only [Option.some.injEq, Prod.mk.injEq] at h
    obtain ⟨rfl, rfl⟩ := h
    refine bodyA (tabC_cons zeroS_ok (tabC_cons cloneP_ok (tabC_nil _))) (n := 0) F21_code ?_
    try simp only [acc, accZ, errA] at *
    simp (disch := first | decide | omega | assumption | exact isS_of (by assumption) | exact ixok_of (by assumption) (by omega) | exact slOk_of (by assumption) | exact bufOk_of (by assumption) (by omega) | exact ixok_ofR (by assumption) (by omega) | exact slOk_ofR (by assumption) | exact lenOk_of (by assumption) (by omega) | exact ixok_of8 (by assumption) (by omega) | exact ixok_ofW (by assumption) (by omega) | exact slOk_ofW (by assumption) | fail) only [F21, RAs, RBs, RCs, RDs, REs, RFs, RGs, RHs, RIs, RJs, RKs, RLs, RRt, Nat.reduceLT, Nat.reduceEqDiff, Nat.reduceAdd, Nat.reduceSub, RXa, RXb, RXc, methR, Int.ofNat_zero, lowL_all, eq_self, take_len, snapL_W, drop_all, List.append_nil, slc_b0, slB0_s, RSl, RSr, RSm, RSx, acc, accZ, errA, *]

/-- arena.Arena.sound: the loop 0 -/
def asoundG (ka : Nat) (a mk : Int) : Nat → Nat → Mo → Option (AV × Mo)
  | 0, x, O => none
  | m + 1, x, O => (
    (match O[ka]? with
    | some (.arr [.ref 0 kd 0]) => (
    (match wgetS [.agg [.ref 0 kd 0], .int .i64 3] O with
    | some (.int .u64 rt, O1) => (
    (if 1 ≤ rt then (
    (if rt ≤ a then (
    (match ausedS [.ref 0 ka 0, .int .i64 rt] O1 with
    | some (.bool true, O2) => (
    some (.bool true, O2))
    | _ => none))
    else none))
    else none))
    | _ => none))
    | _ => none)
  )
theorem asoundG_loop {S : Ms} (ka : Nat) (a mk : Int) (h0 : 0 ≤ a) (h1 : a ≤ 1000) : ∀ (n : Nat) (x : Nat) (O : Mo) (env : Env) (M : Nat) (r : AV) (O' : Mo) (h : asoundG ka a mk n x O = some (r, O')) (hM : n < M) (e0 : env 0 = .ref 0 ka 0) (e1 : env 7 = .int .i64 a) (e2 : env 11 = .int .u64 mk) (e3 : env 74 = .int .i64 0) (e4 : env 75 = .int .i64 0),
    W62x0 cfgA (tabC [(90, alistS), (19, acountsS), (64, wgetS), (60, placeS), (67, ausedS)]) 100000 (loopN (exec cfgA (tabC [(90, alistS), (19, acountsS), (64, wgetS), (60, placeS), (67, ausedS)]) 100000 B62x0) [] M ⟨leOf 114 env, O, S ++ [[]]⟩) = some (r, O', S) := by
  intro n
  induction n with
  | zero =>
    intro x O env M r O' h hM e0 e1 e2 e3 e4
    unfold asoundG at h
    first | (cases h; done) | (dsimp only at h; cases h; done) | (split at h <;> first | (cases h; done) | (exfalso; omega))
  | succ n ih =>
    intro x O env M r O' h hM e0 e1 e2 e3 e4
    obtain ⟨M, rfl⟩ : ∃ M', M = M' + 1 := ⟨M - 1, by omega⟩
    unfold asoundG at h
    repeat' (split at h)
    all_goals first | (cases h; done) | (dsimp only at h; cases h; done) | (exfalso; omega) | skip
    all_goals
      try dsimp only at h
      try simp only [acc, accZ, errA] at *
      first
        | (have hg_ : asoundG ka a mk n _ _ = _ := h
           clear hg_
           simp (disch := first | decide | omega | assumption | exact isS_of (by assumption) | exact ixok_of (by assumption) (by omega) | exact slOk_of (by assumption) | exact bufOk_of (by assumption) (by omega) | exact ixok_ofR (by assumption) (by omega) | exact slOk_ofR (by assumption) | exact lenOk_of (by assumption) (by omega) | exact ixok_of8 (by assumption) (by omega) | exact ixok_ofW (by assumption) (by omega) | exact slOk_ofW (by assumption) | fail) only [loop_unf, loopK_N, loopK_E, loopK_R, RAs, RBs, RCs, RDs, REs, RFs, RGs, RHs, RIs, RJs, RKs, RLs, RRt, Nat.reduceLT, Nat.reduceEqDiff, Nat.reduceAdd, Nat.reduceSub, RXa, RXb, RXc, methR, Int.ofNat_zero, lowL_all, eq_self, take_len, snapL_W, drop_all, List.append_nil, slc_b0, slB0_s, RSl, RSr, RSm, RSx, placeS, *]
           refine ih _ _ _ _ _ _ h (by omega) ?_ ?_ ?_ ?_ ?_
           all_goals simp (disch := first | decide | omega | assumption | exact isS_of (by assumption) | exact ixok_of (by assumption) (by omega) | exact slOk_of (by assumption) | exact bufOk_of (by assumption) (by omega) | exact ixok_ofR (by assumption) (by omega) | exact slOk_ofR (by assumption) | exact lenOk_of (by assumption) (by omega) | exact ixok_of8 (by assumption) (by omega) | exact ixok_ofW (by assumption) (by omega) | exact slOk_ofW (by assumption) | fail) only [RAs, RBs, RCs, RDs, REs, RFs, RGs, RHs, RIs, RJs, RKs, RLs, RRt, Nat.reduceLT, Nat.reduceEqDiff, Nat.reduceAdd, Nat.reduceSub, RXa, RXb, RXc, methR, Int.ofNat_zero, lowL_all, eq_self, take_len, snapL_W, drop_all, List.append_nil, slc_b0, slB0_s, RSl, RSr, RSm, RSx, *])
        | (simp only [Option.some.injEq, Prod.mk.injEq] at h
           obtain ⟨rfl, rfl⟩ := h
           simp (disch := first | decide | omega | assumption | exact isS_of (by assumption) | exact ixok_of (by assumption) (by omega) | exact slOk_of (by assumption) | exact bufOk_of (by assumption) (by omega) | exact ixok_ofR (by assumption) (by omega) | exact slOk_ofR (by assumption) | exact lenOk_of (by assumption) (by omega) | exact ixok_of8 (by assumption) (by omega) | exact ixok_ofW (by assumption) (by omega) | exact slOk_ofW (by assumption) | fail) only [W62x0, loop_unf, loopK_N, loopK_E, loopK_R, RAs, RBs, RCs, RDs, REs, RFs, RGs, RHs, RIs, RJs, RKs, RLs, RRt, Nat.reduceLT, Nat.reduceEqDiff, Nat.reduceAdd, Nat.reduceSub, RXa, RXb, RXc, methR, Int.ofNat_zero, lowL_all, eq_self, take_len, snapL_W, drop_all, List.append_nil, slc_b0, slB0_s, RSl, RSr, RSm, RSx, placeS, *])

attribute [local irreducible] asoundG
/-- arena.Arena.sound -/
def asoundS : Sp := fun args O =>
  match args with
  | [.ref 0 ka 0] => (
    (match alistS [.ref 0 ka 0, .int .i64 1, .int .u64 0] O with
    | some (.tup [lv, .bool true], O1) => (
    (match alistS [.ref 0 ka 0, .int .i64 2, .int .u64 255] O1 with
    | some (.tup [.nils, .bool true], O2) => (
    (match acountsS [.ref 0 ka 0] O2 with
    | some (.tup [.int .i64 a, .int .i64 f, .int .i64 u, .int .i64 d], O3) => (
    (match O3[ka]? with
    | some (.arr [.ref 0 kc 0]) => (
    (match wgetS [.agg [.ref 0 kc 0], .int .i64 4] O3 with
    | some (.int .u64 mk, O4) => (
    (match rdI O4 lv with
    | some (l) => (
    (if (l.length : Int) = f then (
    (if d = 0 then (
    (if 0 ≤ f ∧ f ≤ 1000 ∧ 0 ≤ u ∧ u ≤ 1000 ∧ 0 ≤ a ∧ a ≤ 1000 then (
    (if f + u = a then (
    (if 1 ≤ mk ∧ mk ≤ 1099511627776 then (
    asoundG ka a mk 5 0 O4)
    else none))
    else none))
    else none))
    else none))
    else none))
    | _ => none))
    | _ => none))
    | _ => none))
    | _ => none))
    | _ => none))
    | _ => none)
  )
  | _ => none
theorem asoundS_ok : SpOk Tryz.prog 62 asoundS := by
  intro args O r O' h S
  unfold asoundS at h
  repeat' (split at h)
  all_goals first | (cases h; done) | skip
  all_goals
    try simp only [acc, accZ, errA] at *
    first
      | (simp only [Option.some.injEq, Prod.mk.injEq] at h
         obtain ⟨rfl, rfl⟩ := h
         refine bodyA (tabC_cons alistS_ok (tabC_cons acountsS_ok (tabC_cons wgetS_ok (tabC_cons placeS_ok (tabC_cons ausedS_ok (tabC_nil _)))))) (n := 100000) F62_code ?_
         simp (disch := first | decide | omega | assumption | exact isS_of (by assumption) | exact ixok_of (by assumption) (by omega) | exact slOk_of (by assumption) | exact bufOk_of (by assumption) (by omega) | exact ixok_ofR (by assumption) (by omega) | exact slOk_ofR (by assumption) | exact lenOk_of (by assumption) (by omega) | exact ixok_of8 (by assumption) (by omega) | exact ixok_ofW (by assumption) (by omega) | exact slOk_ofW (by assumption) | fail) only [F62, RAs, RBs, RCs, RDs, REs, RFs, RGs, RHs, RIs, RJs, RKs, RLs, RRt, Nat.reduceLT, Nat.reduceEqDiff, Nat.reduceAdd, Nat.reduceSub, RXa, RXb, RXc, methR, Int.ofNat_zero, lowL_all, eq_self, take_len, snapL_W, drop_all, List.append_nil, slc_b0, slB0_s, RSl, RSr, RSm, RSx, acc, accZ, errA, placeS, *])
      | (refine bodyA (tabC_cons alistS_ok (tabC_cons acountsS_ok (tabC_cons wgetS_ok (tabC_cons placeS_ok (tabC_cons ausedS_ok (tabC_nil _)))))) (n := 100000) F62_code ?_
         simp (disch := first | decide | omega | assumption | exact isS_of (by assumption) | exact ixok_of (by assumption) (by omega) | exact slOk_of (by assumption) | exact bufOk_of (by assumption) (by omega) | exact ixok_ofR (by assumption) (by omega) | exact slOk_ofR (by assumption) | exact lenOk_of (by assumption) (by omega) | exact ixok_of8 (by assumption) (by omega) | exact ixok_ofW (by assumption) (by omega) | exact slOk_ofW (by assumption) | fail) only [F62, RAs, RBs, RCs, RDs, REs, RFs, RGs, RHs, RIs, RJs, RKs, RLs, RRt, Nat.reduceLT, Nat.reduceEqDiff, Nat.reduceAdd, Nat.reduceSub, RXa, RXb, RXc, methR, Int.ofNat_zero, lowL_all, eq_self, take_len, snapL_W, drop_all, List.append_nil, slc_b0, slB0_s, RSl, RSr, RSm, RSx, e_loop, acc, accZ, errA, placeS, *]
         refine (fin_skip _ _ _ _ _).trans ?_
         refine asoundG_loop _ _ _ (by omega) (by omega) _ _ _ _ _ _ _ h (by omega) ?_ ?_ ?_ ?_ ?_
         all_goals simp (disch := first | decide | omega | assumption | exact isS_of (by assumption) | exact ixok_of (by assumption) (by omega) | exact slOk_of (by assumption) | exact bufOk_of (by assumption) (by omega) | exact ixok_ofR (by assumption) (by omega) | exact slOk_ofR (by assumption) | exact lenOk_of (by assumption) (by omega) | exact ixok_of8 (by assumption) (by omega) | exact ixok_ofW (by assumption) (by omega) | exact slOk_ofW (by assumption) | fail) only [RAs, RBs, RCs, RDs, REs, RFs, RGs, RHs, RIs, RJs, RKs, RLs, RRt, Nat.reduceLT, Nat.reduceEqDiff, Nat.reduceAdd, Nat.reduceSub, RXa, RXb, RXc, methR, Int.ofNat_zero, lowL_all, eq_self, take_len, snapL_W, drop_all, List.append_nil, slc_b0, slB0_s, RSl, RSr, RSm, RSx, *])

/-- arena.Open -/
def aopenS : Sp := fun args O =>
  match args with
  | [.ref 0 k 0] => (
    (match lenS [.ref 0 k 0] O with
    | some (.int .i64 n, O1) => (
    (if n ≠ 0 then (
    (match loadS [.ref 0 k 0, .int .i64 0] O1 with
    | some (.tup [.int .u64 p, .int .i64 e], O2) => (
    (if e = 0 then (
    (if 1 ≤ p ∧ p ≤ 511 then (
    (match lenS [.ref 0 k 0] O2 with
    | some (.int .i64 n2, O3) => (
    (if 16 + 128 * (p + 1 - 1) + 0 ≤ n2 then (
    (match memCopyS [.ref 0 k 0] O3 with
    | some (.ref 0 kc 0, O4) => (
    (match asoundS [.ref 0 O4.length 0] (O4 ++ [.arr [.ref 0 kc 0]]) with
    | some (.bool true, O5) => (
    some (.tup [.ref 0 O4.length 0, .int .i64 0], O5))
    | _ => none))
    | _ => none))
    else none))
    | _ => none))
    else none))
    else none))
    | _ => none))
    else none))
    | _ => none)
  )
  | _ => none
theorem aopenS_ok : SpOk Tryz.prog 17 aopenS := by
  intro args O r O' h S
  unfold aopenS at h
  repeat' (split at h)
  all_goals first | (cases h; done) | skip
  all_goals
    simp only [Option.some.injEq, Prod.mk.injEq] at h
    obtain ⟨rfl, rfl⟩ := h
    refine bodyA (tabC_cons lenS_ok (tabC_cons loadS_ok (tabC_cons placeS_ok (tabC_cons memCopyS_ok (tabC_cons asoundS_ok (tabC_nil _)))))) (n := 0) F17_code ?_
    try simp only [acc, accZ, errA] at *
    simp (disch := first | decide | omega | assumption | exact isS_of (by assumption) | exact ixok_of (by assumption) (by omega) | exact slOk_of (by assumption) | exact bufOk_of (by assumption) (by omega) | exact ixok_ofR (by assumption) (by omega) | exact slOk_ofR (by assumption) | exact lenOk_of (by assumption) (by omega) | exact ixok_of8 (by assumption) (by omega) | exact ixok_ofW (by assumption) (by omega) | exact slOk_ofW (by assumption) | fail) only [F17, RAs, RBs, RCs, RDs, REs, RFs, RGs, RHs, RIs, RJs, RKs, RLs, RRt, Nat.reduceLT, Nat.reduceEqDiff, Nat.reduceAdd, Nat.reduceSub, RXa, RXb, RXc, methR, Int.ofNat_zero, lowL_all, eq_self, take_len, snapL_W, drop_all, List.append_nil, slc_b0, slB0_s, RSl, RSr, RSm, RSx, acc, accZ, errA, placeS, *]

end Den

/- DescendLayouts: what it computes. -/
set_option maxRecDepth 1000000
set_option maxHeartbeats 4000000
set_option linter.unusedSimpArgs false
set_option linter.unusedVariables false
namespace Den
open Go Go.Proofs

/-- An empty page, looked at. -/
noncomputable def is0 : KV := fun v _ _ => match v with
  | .int .i64 n => decide (n = 0)
  | _ => false
theorem is0_ok {v : AV} {O : Mo} {S : Ms} (h : is0 v O S = true) : v = .int .i64 0 := by
  unfold is0 at h
  split at h
  · rw [of_decide_eq_true h]
  · cases h
theorem level_run : fden cfgL noFp 1000000 22 [.agg P0] [] [] is0 = true := by kernel_rfl
theorem slen_run : fden cfgL noFp 1000000 23 [.agg P0] [] [] is0 = true := by kernel_rfl
theorem of_run0 {f : FuncId} (run : fden cfgL noFp 1000000 f [.agg P0] [] [] is0 = true) (O : Mo) (S : Ms) : CallOk Tryz.prog f [.agg P0] O S (.int .i64 0) O S := by
  obtain ⟨r, O', S', h, hk⟩ := fden_ok cfgL_ok noFp_ok run
  obtain rfl := is0_ok hk
  exact h.anywhere (by simp only [Den.free, List.all_cons, List.all_nil, Bool.and_true]; exact P0_free) rfl O S
def slot0S : Sp := fun args O =>
  match args with
  | [.agg cs] => if chkW W0 cs = true then some (.int .i64 0, O) else none
  | _ => none
theorem slot0_ok {f : FuncId} (run : fden cfgL noFp 1000000 f [.agg P0] [] [] is0 = true) : SpOk Tryz.prog f slot0S := by
  intro args O r O' hh S
  unfold slot0S at hh
  split at hh
  · split at hh
    · rename_i cs h1
      obtain rfl := chkW_eq h1
      cases hh
      exact of_run0 run O S
    · cases hh
  · cases hh
def slevelS : Sp := slot0S
theorem slevelS_ok : SpOk Tryz.prog 22 slevelS := slot0_ok level_run
def slenS : Sp := slot0S
theorem slenS_ok : SpOk Tryz.prog 23 slenS := slot0_ok slen_run
/-- ticketlineref27.Allowed -/
def rallowS : Sp := fun args O =>
  match args with
  | [.agg [.int .i64 p, .int .i64 t]] => if p < 1 then some (.bool false, O) else if 511 < p then some (.bool false, O) else if t < 1 then some (.bool false, O) else if 17 < t then some (.bool false, O) else some (.bool true, O)
  | _ => none
theorem rallowS_ok : SpOk Tryz.prog 5 rallowS := by
  intro args O r O' h S
  unfold rallowS at h
  repeat' (split at h)
  all_goals first | (cases h; done) | skip
  all_goals
    simp only [Option.some.injEq, Prod.mk.injEq] at h
    obtain ⟨rfl, rfl⟩ := h
    refine bodyA (tabC_nil _) (n := 0) F5_code ?_
    try simp only [acc, accZ, errA] at *
    simp (disch := first | decide | omega | assumption | exact isS_of (by assumption) | exact ixok_of (by assumption) (by omega) | exact slOk_of (by assumption) | exact bufOk_of (by assumption) (by omega) | exact ixok_ofR (by assumption) (by omega) | exact slOk_ofR (by assumption) | exact lenOk_of (by assumption) (by omega) | exact ixok_of8 (by assumption) (by omega) | exact ixok_ofW (by assumption) (by omega) | exact slOk_ofW (by assumption) | fail) only [F5, RAs, RBs, RCs, RDs, REs, RFs, RGs, RHs, RIs, RJs, RKs, RLs, RRt, Nat.reduceLT, Nat.reduceEqDiff, Nat.reduceAdd, Nat.reduceSub, RXa, RXb, RXc, methR, lowL_all, eq_self, take_len, drop_all, List.append_nil, RSl, RSr, RSm, RSx, acc, accZ, errA, *]

/-- ticketlineref27.Words -/
def rwordsS : Sp := fun args O =>
  match args with
  | [.agg [.int .i64 p, .int .i64 t]] => if 1 ≤ p ∧ p ≤ 511 ∧ 1 ≤ t ∧ t ≤ 17 then some (.int .i64 (16 + 128 * p + 6 * t), O) else none
  | _ => none
theorem rwordsS_ok : SpOk Tryz.prog 12 rwordsS := by
  intro args O r O' h S
  unfold rwordsS at h
  repeat' (split at h)
  all_goals first | (cases h; done) | skip
  all_goals
    simp only [Option.some.injEq, Prod.mk.injEq] at h
    obtain ⟨rfl, rfl⟩ := h
    refine bodyA (tabC_nil _) (n := 0) F12_code ?_
    try simp only [acc, accZ, errA] at *
    simp (disch := first | decide | omega | assumption | exact isS_of (by assumption) | exact ixok_of (by assumption) (by omega) | exact slOk_of (by assumption) | exact bufOk_of (by assumption) (by omega) | exact ixok_ofR (by assumption) (by omega) | exact slOk_ofR (by assumption) | exact lenOk_of (by assumption) (by omega) | exact ixok_of8 (by assumption) (by omega) | exact ixok_ofW (by assumption) (by omega) | exact slOk_ofW (by assumption) | fail) only [F12, RAs, RBs, RCs, RDs, REs, RFs, RGs, RHs, RIs, RJs, RKs, RLs, RRt, Nat.reduceLT, Nat.reduceEqDiff, Nat.reduceAdd, Nat.reduceSub, RXa, RXb, RXc, methR, lowL_all, eq_self, take_len, drop_all, List.append_nil, RSl, RSr, RSm, RSx, acc, accZ, errA, *]

/-- ticketlineref27.At -/
def ratS : Sp := fun args O =>
  match args with
  | [.int .i64 g] => if g = 0 then some (.int .i64 8, O) else if 1 ≤ g ∧ g ≤ 511 then some (.int .i64 (16 + 128 * (g - 1)), O) else none
  | _ => none
theorem ratS_ok : SpOk Tryz.prog 11 ratS := by
  intro args O r O' h S
  unfold ratS at h
  repeat' (split at h)
  all_goals first | (cases h; done) | skip
  all_goals
    simp only [Option.some.injEq, Prod.mk.injEq] at h
    obtain ⟨rfl, rfl⟩ := h
    refine bodyA (tabC_nil _) (n := 0) F11_code ?_
    try simp only [acc, accZ, errA] at *
    simp (disch := first | decide | omega | assumption | exact isS_of (by assumption) | exact ixok_of (by assumption) (by omega) | exact slOk_of (by assumption) | exact bufOk_of (by assumption) (by omega) | exact ixok_ofR (by assumption) (by omega) | exact slOk_ofR (by assumption) | exact lenOk_of (by assumption) (by omega) | exact ixok_of8 (by assumption) (by omega) | exact ixok_ofW (by assumption) (by omega) | exact slOk_ofW (by assumption) | fail) only [F11, RAs, RBs, RCs, RDs, REs, RFs, RGs, RHs, RIs, RJs, RKs, RLs, RRt, Nat.reduceLT, Nat.reduceEqDiff, Nat.reduceAdd, Nat.reduceSub, RXa, RXb, RXc, methR, lowL_all, eq_self, take_len, drop_all, List.append_nil, RSl, RSr, RSm, RSx, acc, accZ, errA, *]

/-- ticketlinelaw27.word -/
def word27S : Sp := fun args O =>
  match args with
  | [.agg [.int .i64 p, .int .i64 t], .int .i64 w, .int .i64 no] => (
    (match dWordsS [.agg [.int .i64 p, .int .i64 t]] O with
    | some (.tup [.int .i64 n, .int .i64 e], O1) => (
    (if n = w then (
    (if e = no then (
    some (.bool true, O1))
    else none))
    else none))
    | _ => none)
  )
  | _ => none
theorem word27S_ok : SpOk Tryz.prog 8 word27S := by
  intro args O r O' h S
  unfold word27S at h
  repeat' (split at h)
  all_goals first | (cases h; done) | skip
  all_goals
    simp only [Option.some.injEq, Prod.mk.injEq] at h
    obtain ⟨rfl, rfl⟩ := h
    refine bodyA (tabC_cons dWordsS_ok (tabC_nil _)) (n := 0) F8_code ?_
    try simp only [acc, accZ, errA] at *
    simp (disch := first | decide | omega | assumption | exact isS_of (by assumption) | exact ixok_of (by assumption) (by omega) | exact slOk_of (by assumption) | exact bufOk_of (by assumption) (by omega) | exact ixok_ofR (by assumption) (by omega) | exact slOk_ofR (by assumption) | exact lenOk_of (by assumption) (by omega) | exact ixok_of8 (by assumption) (by omega) | exact ixok_ofW (by assumption) (by omega) | exact slOk_ofW (by assumption) | fail) only [F8, RAs, RBs, RCs, RDs, REs, RFs, RGs, RHs, RIs, RJs, RKs, RLs, RRt, Nat.reduceLT, Nat.reduceEqDiff, Nat.reduceAdd, Nat.reduceSub, RXa, RXb, RXc, methR, lowL_all, eq_self, take_len, drop_all, List.append_nil, RSl, RSr, RSm, RSx, acc, accZ, errA, *]

/-- ticketlinelaw27.at -/
def at27S : Sp := fun args O =>
  match args with
  | [.agg [.int .i64 p, .int .i64 t], .int .i64 g, .int .i64 w, .int .i64 no] => (
    (match dAtS [.agg [.int .i64 p, .int .i64 t], .int .i64 g] O with
    | some (.tup [.int .i64 a, .int .i64 e], O1) => (
    (match dOfS [.agg [.int .i64 p, .int .i64 t], .int .i64 g] O1 with
    | some (.tup [.int .i64 b, .int .i64 f], O2) => (
    if no = 0 then (
      (if a = w then (
      (if 0 ≤ w ∧ w ≤ 100000 then (
      (if b = w + 3 then (
      (if e = 0 then (
      (if f = 0 then (
      some (.bool true, O2))
      else none))
      else none))
      else none))
      else none))
      else none)
    )
    else (
      (if a = 0 then (
      (if b = 0 then (
      (if e = no then (
      (if f = no then (
      some (.bool true, O2))
      else none))
      else none))
      else none))
      else none)
    ))
    | _ => none))
    | _ => none)
  )
  | _ => none
theorem at27S_ok : SpOk Tryz.prog 9 at27S := by
  intro args O r O' h S
  unfold at27S at h
  repeat' (split at h)
  all_goals first | (cases h; done) | skip
  all_goals
    simp only [Option.some.injEq, Prod.mk.injEq] at h
    obtain ⟨rfl, rfl⟩ := h
    refine bodyA (tabC_cons dAtS_ok (tabC_cons dOfS_ok (tabC_nil _))) (n := 0) F9_code ?_
    try simp only [acc, accZ, errA] at *
    simp (disch := first | decide | omega | assumption | exact isS_of (by assumption) | exact ixok_of (by assumption) (by omega) | exact slOk_of (by assumption) | exact bufOk_of (by assumption) (by omega) | exact ixok_ofR (by assumption) (by omega) | exact slOk_ofR (by assumption) | exact lenOk_of (by assumption) (by omega) | exact ixok_of8 (by assumption) (by omega) | exact ixok_ofW (by assumption) (by omega) | exact slOk_ofW (by assumption) | fail) only [F9, RAs, RBs, RCs, RDs, REs, RFs, RGs, RHs, RIs, RJs, RKs, RLs, RRt, Nat.reduceLT, Nat.reduceEqDiff, Nat.reduceAdd, Nat.reduceSub, RXa, RXb, RXc, methR, lowL_all, eq_self, take_len, drop_all, List.append_nil, RSl, RSr, RSm, RSx, acc, accZ, errA, *]

/-- ticketlinelaw27.DescendLayouts: the loop 0 -/
def layG (p t : Int) (cs : List AV) (sl : AV) : Nat → Int → Mo → Option (AV × Mo)
  | 0, k, O => none
  | m + 1, k, O => (
    (match rdW O sl with
    | some (l) => (
    (if l.length ≤ 100000 then (
    (if 0 ≤ k then (
    if k < (l.length : Int) then (
      (match l[k.toNat]? with
      | some (x) => (
      (if x = 0 then (
      layG p t cs sl m (k + 1) O)
      else none))
      | _ => none)
    )
    else (
      (match slevelS [.agg cs] O with
      | some (.int .i64 lv, O1) => (
      (if lv = 0 then (
      (match slenS [.agg cs] O1 with
      | some (.int .i64 ln, O2) => (
      (if ln = 0 then (
      (match known27S [] O2 with
      | some (.bool d, O3) => (
      some (.bool d, O3))
      | _ => none))
      else none))
      | _ => none))
      else none))
      | _ => none)
    ))
    else none))
    else none))
    | _ => none)
  )
theorem layG_loop {S : Ms} (p t : Int) (cs : List AV) (sl : AV) (h0 : cs.length = 128) (h1 : 1 ≤ p) (h2 : p ≤ 511) : ∀ (n : Nat) (k : Int) (O : Mo) (env : Env) (M : Nat) (r : AV) (O' : Mo) (h : layG p t cs sl n k O = some (r, O')) (hM : n < M) (e0 : env 2 = .ref (S.length + 1) 0 0) (e1 : env 17 = .ref (S.length + 1) 1 0) (e2 : env 13 = .int .i64 p) (e3 : env 14 = .int .i64 (p - 1)) (e4 : env 15 = .int .i64 1) (e5 : env 16 = .int .i64 0) (e6 : env 10 = .int .i64 0) (e7 : env 19 = .int .i64 0) (e8 : env 18 = sl) (e9 : env 20 = .int .i64 k),
    W3x0 cfgA (tabC [(5, rallowS), (6, dNodesS), (7, formatS), (8, word27S), (9, at27S), (10, known27S), (11, ratS), (12, rwordsS), (13, nbaseS), (14, nthreadsS), (15, nlenS), (16, lenS), (17, aopenS), (18, arootS), (19, acountsS), (20, areadS), (21, mwordsS), (22, slevelS), (23, slenS)]) 100000 (loopN (exec cfgA (tabC [(5, rallowS), (6, dNodesS), (7, formatS), (8, word27S), (9, at27S), (10, known27S), (11, ratS), (12, rwordsS), (13, nbaseS), (14, nthreadsS), (15, nlenS), (16, lenS), (17, aopenS), (18, arootS), (19, acountsS), (20, areadS), (21, mwordsS), (22, slevelS), (23, slenS)]) 100000 B3x0) [] M ⟨leOf 240 env, O, S ++ [[ABlk.arr [.int .i64 p, .int .i64 t], ABlk.arr cs]]⟩) = some (r, O', S) := by
  intro n
  induction n with
  | zero =>
    intro k O env M r O' h hM e0 e1 e2 e3 e4 e5 e6 e7 e8 e9
    unfold layG at h
    first | (cases h; done) | (dsimp only at h; cases h; done) | (split at h <;> first | (cases h; done) | (exfalso; omega))
  | succ n ih =>
    intro k O env M r O' h hM e0 e1 e2 e3 e4 e5 e6 e7 e8 e9
    obtain ⟨M, rfl⟩ : ∃ M', M = M' + 1 := ⟨M - 1, by omega⟩
    unfold layG at h
    repeat' (split at h)
    all_goals first | (cases h; done) | (dsimp only at h; cases h; done) | (exfalso; omega) | skip
    all_goals
      try dsimp only at h
      try simp only [acc, accZ, errA] at *
      first
        | (have hg_ : layG p t cs sl n _ _ = _ := h
           clear hg_
           simp (disch := first | decide | omega | assumption | exact isS_of (by assumption) | exact ixok_of (by assumption) (by omega) | exact slOk_of (by assumption) | exact bufOk_of (by assumption) (by omega) | exact ixok_ofR (by assumption) (by omega) | exact slOk_ofR (by assumption) | exact lenOk_of (by assumption) (by omega) | exact ixok_of8 (by assumption) (by omega) | exact ixok_ofW (by assumption) (by omega) | exact slOk_ofW (by assumption) | fail) only [loop_unf, loopK_N, loopK_E, loopK_R, RAs, RBs, RCs, RDs, REs, RFs, RGs, RHs, RIs, RJs, RKs, RLs, RRt, Nat.reduceLT, Nat.reduceEqDiff, Nat.reduceAdd, Nat.reduceSub, RXa, RXb, RXc, methR, lowL_all, eq_self, take_len, drop_all, List.append_nil, RSl, RSr, RSm, RSx, *]
           refine ih _ _ _ _ _ _ h (by omega) ?_ ?_ ?_ ?_ ?_ ?_ ?_ ?_ ?_ ?_
           all_goals simp (disch := first | decide | omega | assumption | exact isS_of (by assumption) | exact ixok_of (by assumption) (by omega) | exact slOk_of (by assumption) | exact bufOk_of (by assumption) (by omega) | exact ixok_ofR (by assumption) (by omega) | exact slOk_ofR (by assumption) | exact lenOk_of (by assumption) (by omega) | exact ixok_of8 (by assumption) (by omega) | exact ixok_ofW (by assumption) (by omega) | exact slOk_ofW (by assumption) | fail) only [RAs, RBs, RCs, RDs, REs, RFs, RGs, RHs, RIs, RJs, RKs, RLs, RRt, Nat.reduceLT, Nat.reduceEqDiff, Nat.reduceAdd, Nat.reduceSub, RXa, RXb, RXc, methR, lowL_all, eq_self, take_len, drop_all, List.append_nil, RSl, RSr, RSm, RSx, *])
        | (simp only [Option.some.injEq, Prod.mk.injEq] at h
           obtain ⟨rfl, rfl⟩ := h
           simp (disch := first | decide | omega | assumption | exact isS_of (by assumption) | exact ixok_of (by assumption) (by omega) | exact slOk_of (by assumption) | exact bufOk_of (by assumption) (by omega) | exact ixok_ofR (by assumption) (by omega) | exact slOk_ofR (by assumption) | exact lenOk_of (by assumption) (by omega) | exact ixok_of8 (by assumption) (by omega) | exact ixok_ofW (by assumption) (by omega) | exact slOk_ofW (by assumption) | fail) only [W3x0, loop_unf, loopK_N, loopK_E, loopK_R, RAs, RBs, RCs, RDs, REs, RFs, RGs, RHs, RIs, RJs, RKs, RLs, RRt, Nat.reduceLT, Nat.reduceEqDiff, Nat.reduceAdd, Nat.reduceSub, RXa, RXb, RXc, methR, lowL_all, eq_self, take_len, drop_all, List.append_nil, RSl, RSr, RSm, RSx, *])

attribute [local irreducible] layG slevelS slenS
/-- ticketlinelaw27.DescendLayouts -/
def layC (p t : Int) (km ka : Nat) (O : Mo) : Option (AV × Mo) :=
  (match arootS [.ref 0 ka 0] O with
  | some (.int .i64 r1, O1) => (
  (if 1 ≤ r1 then (
  (match arootS [.ref 0 ka 0] O1 with
  | some (.int .i64 r2, O2) => (
  (if r2 ≤ p then (
  (match acountsS [.ref 0 ka 0] O2 with
  | some (.tup [.int .i64 a, .int .i64 b, .int .i64 c, .int .i64 d], O3) => (
  (if a = p then (
  (if b = p - 1 then (
  (if c = 1 then (
  (if d = 0 then (
  (match arootS [.ref 0 ka 0] O3 with
  | some (.int .i64 r3, O4) => (
  (match areadS [.ref 0 ka 0, .int .i64 r3] O4 with
  | some (.tup [.agg cs, .int .i64 e], O5) => (
  (if e = 0 then (
  (if cs.length = 128 then (
  (if cs.all isW = true then (
  (match lenS [.ref 0 km 0] O5 with
  | some (.int .i64 n, O6) => (
  (match mwordsS [.ref 0 km 0, .int .i64 (16 + 128 * p), .int .i64 n] O6 with
  | some (.tup [.bref 0 k3 0 n3 t3, .int .i64 f], O7) => (
  (if f = 0 then (
  layG p t cs (.bref 0 k3 0 n3 t3) 200 0 O7)
  else none))
  | _ => none))
  | _ => none))
  else none))
  else none))
  else none))
  | _ => none))
  | _ => none))
  else none))
  else none))
  else none))
  else none))
  | _ => none))
  else none))
  | _ => none))
  else none))
  | _ => none)
def layB (p t : Int) (O : Mo) : Option (AV × Mo) :=
  (match formatS [.agg [.int .i64 p, .int .i64 t]] O with
  | some (.tup [.ref 0 km 0, .int .i64 e], O8) => (
  (if e = 0 then (
  (match lenS [.ref 0 km 0] O8 with
  | some (.int .i64 n, O9) => (
  (match rwordsS [.agg [.int .i64 p, .int .i64 t]] O9 with
  | some (.int .i64 w, O10) => (
  (if n = w then (
  (match aopenS [.ref 0 km 0] O10 with
  | some (.tup [.ref 0 ka 0, .int .i64 f], O11) => (
  (if f = 0 then (
  layC p t km ka O11)
  else none))
  | _ => none))
  else none))
  | _ => none))
  | _ => none))
  else none))
  | _ => none)
def layA (p t : Int) (O : Mo) : Option (AV × Mo) :=
  (match dNodesS [.agg [.int .i64 p, .int .i64 t]] O with
  | some (.tup [.ref 0 kn 0, .int .i64 e], O12) => (
  (if e = 0 then (
  (match rwordsS [.agg [.int .i64 p, .int .i64 t]] O12 with
  | some (.int .i64 w, O13) => (
  (match word27S [.agg [.int .i64 p, .int .i64 t], .int .i64 w, .int .i64 0] O13 with
  | some (.bool true, O14) => (
  (match nbaseS [.ref 0 kn 0] O14 with
  | some (.int .i64 a, O15) => (
  (if a = 16 + 128 * p then (
  (match nthreadsS [.ref 0 kn 0] O15 with
  | some (.int .i64 b, O16) => (
  (if b = t then (
  (match nlenS [.ref 0 kn 0] O16 with
  | some (.int .i64 c, O17) => (
  (if c = 6 * t then (
  if 20 < p then (
    (match known27S [] O17 with
    | some (.bool d, O18) => (
    some (.bool d, O18))
    | _ => none)
  )
  else layB p t O17)
  else none))
  | _ => none))
  else none))
  | _ => none))
  else none))
  | _ => none))
  | _ => none))
  | _ => none))
  else none))
  | _ => none)
def layoutsS : Sp := fun args O =>
  match args with
  | [.agg [.int .i64 p, .int .i64 t], .int .i64 g] => (
    match rallowS [.agg [.int .i64 p, .int .i64 t]] O with
    | some (.bool false, Oz) => (
      (match dNodesS [.agg [.int .i64 p, .int .i64 t]] (Oz) with
      | some (.tup [.nilp, .int .i64 e], O19) => (
      (if e = 2 then (
      (match formatS [.agg [.int .i64 p, .int .i64 t]] O19 with
      | some (.tup [.nilp, .int .i64 f], O20) => (
      (if f = 2 then (
      (match word27S [.agg [.int .i64 p, .int .i64 t], .int .i64 0, .int .i64 2] O20 with
      | some (.bool true, O21) => (
      (match at27S [.agg [.int .i64 p, .int .i64 t], .int .i64 g, .int .i64 0, .int .i64 2] O21 with
      | some (.bool true, O22) => (
      (match known27S [] O22 with
      | some (.bool d, O23) => (
      some (.bool d, O23))
      | _ => none))
      | _ => none))
      | _ => none))
      else none))
      | _ => none))
      else none))
      | _ => none)
    )
    | some (.bool true, Oz) => (
      (if 1 ≤ p ∧ p ≤ 511 ∧ 1 ≤ t ∧ t ≤ 17 then (
      if g < 0 then (
        (match at27S [.agg [.int .i64 p, .int .i64 t], .int .i64 g, .int .i64 0, .int .i64 3] (Oz) with
        | some (.bool true, O24) => (
        layA p t O24)
        | _ => none)
      )
      else if p < g then (
        (match at27S [.agg [.int .i64 p, .int .i64 t], .int .i64 g, .int .i64 0, .int .i64 3] (Oz) with
        | some (.bool true, O25) => (
        layA p t O25)
        | _ => none)
      )
      else (
        (match ratS [.int .i64 g] (Oz) with
        | some (.int .i64 w, O26) => (
        (match at27S [.agg [.int .i64 p, .int .i64 t], .int .i64 g, .int .i64 w, .int .i64 0] O26 with
        | some (.bool true, O27) => (
        layA p t O27)
        | _ => none))
        | _ => none)
      ))
      else none)
    )
    | _ => none
  )
  | _ => none
theorem layoutsS_ok : SpOk Tryz.prog 3 layoutsS := by
  intro args O r O' h S
  unfold layoutsS at h
  repeat' (split at h)
  all_goals first | (cases h; done) | skip
  all_goals try unfold layA at h
  all_goals try (repeat' (split at h))
  all_goals first | (cases h; done) | skip
  all_goals try unfold layB at h
  all_goals try (repeat' (split at h))
  all_goals first | (cases h; done) | skip
  all_goals try unfold layC at h
  all_goals try (repeat' (split at h))
  all_goals first | (cases h; done) | skip
  all_goals first | (cases h; done) | skip
  all_goals
    try simp only [acc, accZ, errA] at *
    first
      | (simp only [Option.some.injEq, Prod.mk.injEq] at h
         obtain ⟨rfl, rfl⟩ := h
         refine bodyA (tabC_cons rallowS_ok (tabC_cons dNodesS_ok (tabC_cons formatS_ok (tabC_cons word27S_ok (tabC_cons at27S_ok (tabC_cons known27S_ok (tabC_cons ratS_ok (tabC_cons rwordsS_ok (tabC_cons nbaseS_ok (tabC_cons nthreadsS_ok (tabC_cons nlenS_ok (tabC_cons lenS_ok (tabC_cons aopenS_ok (tabC_cons arootS_ok (tabC_cons acountsS_ok (tabC_cons areadS_ok (tabC_cons mwordsS_ok (tabC_cons slevelS_ok (tabC_cons slenS_ok (tabC_nil _)))))))))))))))))))) (n := 100000) F3_code ?_
         simp (disch := first | decide | omega | assumption | exact isS_of (by assumption) | exact ixok_of (by assumption) (by omega) | exact slOk_of (by assumption) | exact bufOk_of (by assumption) (by omega) | exact ixok_ofR (by assumption) (by omega) | exact slOk_ofR (by assumption) | exact lenOk_of (by assumption) (by omega) | exact ixok_of8 (by assumption) (by omega) | exact ixok_ofW (by assumption) (by omega) | exact slOk_ofW (by assumption) | fail) only [F3, RAs, RBs, RCs, RDs, REs, RFs, RGs, RHs, RIs, RJs, RKs, RLs, RRt, Nat.reduceLT, Nat.reduceEqDiff, Nat.reduceAdd, Nat.reduceSub, RXa, RXb, RXc, methR, lowL_all, eq_self, take_len, drop_all, List.append_nil, RSl, RSr, RSm, RSx, acc, accZ, errA, *])
      | (refine bodyA (tabC_cons rallowS_ok (tabC_cons dNodesS_ok (tabC_cons formatS_ok (tabC_cons word27S_ok (tabC_cons at27S_ok (tabC_cons known27S_ok (tabC_cons ratS_ok (tabC_cons rwordsS_ok (tabC_cons nbaseS_ok (tabC_cons nthreadsS_ok (tabC_cons nlenS_ok (tabC_cons lenS_ok (tabC_cons aopenS_ok (tabC_cons arootS_ok (tabC_cons acountsS_ok (tabC_cons areadS_ok (tabC_cons mwordsS_ok (tabC_cons slevelS_ok (tabC_cons slenS_ok (tabC_nil _)))))))))))))))))))) (n := 100000) F3_code ?_
         simp (disch := first | decide | omega | assumption | exact isS_of (by assumption) | exact ixok_of (by assumption) (by omega) | exact slOk_of (by assumption) | exact bufOk_of (by assumption) (by omega) | exact ixok_ofR (by assumption) (by omega) | exact slOk_ofR (by assumption) | exact lenOk_of (by assumption) (by omega) | exact ixok_of8 (by assumption) (by omega) | exact ixok_ofW (by assumption) (by omega) | exact slOk_ofW (by assumption) | fail) only [F3, RAs, RBs, RCs, RDs, REs, RFs, RGs, RHs, RIs, RJs, RKs, RLs, RRt, Nat.reduceLT, Nat.reduceEqDiff, Nat.reduceAdd, Nat.reduceSub, RXa, RXb, RXc, methR, lowL_all, eq_self, take_len, drop_all, List.append_nil, RSl, RSr, RSm, RSx, e_loop, acc, accZ, errA, *]
         refine (fin_skip _ _ _ _ _).trans ?_
         refine layG_loop _ _ _ _ (by omega) (by omega) (by omega) _ _ _ _ _ _ _ h (by omega) ?_ ?_ ?_ ?_ ?_ ?_ ?_ ?_ ?_ ?_
         all_goals simp (disch := first | decide | omega | assumption | exact isS_of (by assumption) | exact ixok_of (by assumption) (by omega) | exact slOk_of (by assumption) | exact bufOk_of (by assumption) (by omega) | exact ixok_ofR (by assumption) (by omega) | exact slOk_ofR (by assumption) | exact lenOk_of (by assumption) (by omega) | exact ixok_of8 (by assumption) (by omega) | exact ixok_ofW (by assumption) (by omega) | exact slOk_ofW (by assumption) | fail) only [RAs, RBs, RCs, RDs, REs, RFs, RGs, RHs, RIs, RJs, RKs, RLs, RRt, Nat.reduceLT, Nat.reduceEqDiff, Nat.reduceAdd, Nat.reduceSub, RXa, RXb, RXc, methR, lowL_all, eq_self, take_len, drop_all, List.append_nil, RSl, RSr, RSm, RSx, *])

end Den
