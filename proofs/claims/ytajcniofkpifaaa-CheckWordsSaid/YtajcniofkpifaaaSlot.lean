/- Contracts of slots in a page. -/
import Derived.Test.YtajcniofkpifaaaCodeW
import Derived.Test.YtajcniofkpifaaaMemC
import Derived.Test.YtajcniofkpifaaaUnpS
import Derived.Test.YtajcniofkpifaaaDenGA
set_option maxRecDepth 100000
set_option maxHeartbeats 4000000
set_option linter.unusedSimpArgs false
set_option linter.unusedVariables false
namespace Den
open Go Go.Proofs

abbrev PgH (S : Ms) (dp kp : Nat) (W : List Int) : Prop := ∀ (O : Mo) (F : List ABlk), gm O (S ++ [F]) (dp + 1) kp = some (.arr (encW W))
/-- The words of so many bytes. -/
def wordsS : Sp := fun args O =>
  match args with
  | [.int .i64 n] => if -1000000 ≤ n ∧ n ≤ 1000000 then some (.int .i64 (U.wordsI n), O) else none
  | _ => none
theorem wordsS_ok : SpOk Try.prog 81 wordsS := fun args O r O' h S => by
  refine U.words_ok ?_
  unfold wordsS at h
  unfold U.wordsP
  split at h
  · split at h
    · rename_i c; cases h; simp only [if_pos c]
    · cases h
  · cases h
/-- The string in some words of a page. -/
def unpW (W : List Int) (off len : Nat) (n : Int) : Option (List UInt8 × Int) :=
  if 0 ≤ n ∧ n ≤ 40 ∧ (len : Int) = U.wordsI n then
    match U.u64s (((encW W).drop off).take len) with
    | some ws => if ws.length = len then U.unpackA ws n.toNat else none
    | none => none
  else none
def unp4 (o : Option (List UInt8 × Int)) (O : Mo) (S : Ms) : Ans := match o with
  | some (s, e) => some (.tup [.str s, .int .i64 e], O, S)
  | none => none
def unp3 (o : Option (List Int)) (off len : Nat) (n : Int) (O : Mo) (S : Ms) : Ans := match o with
  | some W => unp4 (unpW W off len n) O S
  | none => none
def unp2 (o : Option ABlk) (off len : Nat) (n : Int) (O : Mo) (S : Ms) : Ans := match o with
  | some (.arr cs) => unp3 (toW cs) off len n O S
  | _ => none
def unpG : CallS := fun args O S => match args with
  | [.sref (d + 1) k off len cap, .int .i64 n] => unp2 (gm O S (d + 1) k) off len n O S
  | _ => none
theorem unpG_eq (d k off len cap : Nat) (n : Int) (O : Mo) (S : Ms) : unpG [.sref (d + 1) k off len cap, .int .i64 n] O S = unp2 (gm O S (d + 1) k) off len n O S := rfl
theorem unp2_eq (cs : List AV) (off len : Nat) (n : Int) (O : Mo) (S : Ms) : unp2 (some (.arr cs)) off len n O S = unp3 (toW cs) off len n O S := rfl
theorem unp3_eq (W : List Int) (off len : Nat) (n : Int) (O : Mo) (S : Ms) : unp3 (some W) off len n O S = unp4 (unpW W off len n) O S := rfl
theorem unp4_eq (s : List UInt8) (e : Int) (O : Mo) (S : Ms) : unp4 (some (s, e)) O S = some (.tup [.str s, .int .i64 e], O, S) := rfl
theorem unpG_ok : XOk Try.prog 82 unpG := fun args O S r O' S' h => by
  unfold unpG at h
  split at h
  · rename_i d k off len cap n
    cases hg : gm O S (d + 1) k with
    | none => rw [hg] at h; cases h
    | some b =>
      rw [hg] at h
      cases b with
      | arr cs =>
        simp only [unp2] at h
        cases hW : toW cs with
        | none => rw [hW] at h; cases h
        | some W =>
          rw [hW] at h
          simp only [unp3] at h
          obtain rfl := toW_eq hW
          unfold unpW at h
          split at h
          · rename_i c
            split at h
            · rename_i ws hu
              split at h
              · rename_i hl
                cases ha : U.unpackA ws n.toNat with
                | none => rw [ha] at h; cases h
                | some p =>
                  obtain ⟨s, e⟩ := p
                  rw [ha] at h
                  cases h
                  refine U.unpack_ok ?_
                  unfold U.unpackP
                  simp only []
                  rw [if_neg (by omega), if_neg (by omega), if_neg (by omega), hg]
                  simp only [hu, if_pos hl, ha]
              · cases h
            · cases h
          · cases h
      | buf _ _ => cases h
      | map _ => cases h
  · cases h
theorem shr8 {a : Int} {k' : IntKind} (h : 0 ≤ a) : bin .shr (.int .u64 a) (.int k' 8) = some (.int .u64 (a / 256)) := by
  rw [shr_P (by omega) (by omega) h]; rfl
theorem shr16 {a : Int} {k' : IntKind} (h : 0 ≤ a) : bin .shr (.int .u64 a) (.int k' 16) = some (.int .u64 (a / 65536)) := by
  rw [shr_P (by omega) (by omega) h]; rfl
theorem tn8 : Int.toNat 8 = 8 := rfl
theorem tn9 : Int.toNat 9 = 9 := rfl
theorem tn10 : Int.toNat 10 = 10 := rfl
theorem tn11 : Int.toNat 11 = 11 := rfl
/-- slot.entryOf -/
def entryS : Sp := fun args O =>
  match args with
  | [.int .u64 w] => (
    (if 0 ≤ w ∧ w < 8388608 then (
    (if 0 ≤ U.wordsI (w / 256 % 256) ∧ U.wordsI (w / 256 % 256) ≤ 40 then (
    (if 0 ≤ U.wordsI (w % 256) ∧ U.wordsI (w % 256) ≤ 40 then (
    some (.agg [.int .i64 (w / 65536), .int .i64 (w / 65536 + U.wordsI (w / 256 % 256)), .int .i64 (w / 65536 + U.wordsI (w / 256 % 256) + U.wordsI (w % 256)), .int .i64 (w / 256 % 256), .int .i64 (w % 256)], O))
    else none))
    else none))
    else none)
  )
  | _ => none
theorem entryS_ok : SpOk Try.prog 66 entryS := by
  intro args O r O' h S
  unfold entryS at h
  repeat' (split at h)
  all_goals first | (cases h; done) | skip
  all_goals
    simp only [Option.some.injEq, Prod.mk.injEq] at h
    obtain ⟨rfl, rfl⟩ := h
    refine bodyA (tabX_cons (spE_ok wordsS_ok) (tabX_nil _)) (n := 0) F66_code ?_
    try simp only [acc, accZ, errA] at *
    simp (disch := first | decide | omega | assumption | exact isS_of (by assumption) | exact ixok_of (by assumption) (by omega) | exact slOk_of (by assumption) | exact bufOk_of (by assumption) (by omega) | exact ixok_ofR (by assumption) (by omega) | exact slOk_ofR (by assumption) | exact lenOk_of (by assumption) (by omega) | exact ixok_of8 (by assumption) (by omega) | exact ixok_ofW (by assumption) (by omega) | exact slOk_ofW (by assumption) | fail) only [F66, RAs, RBs, RCs, RDs, REs, RFs, RGs, RHs, RIs, RJs, RKs, RLs, RRt, Nat.reduceLT, Nat.reduceEqDiff, Nat.reduceAdd, Nat.reduceSub, RXa, RXb, RXc, tn8, tn9, tn10, tn11, s_arr, s_arrS, Nat.zero_add, Nat.mul_one, bounds_eq, bnd_some, bnd_none, bndC_P, eq_self, unpG_eq, unp2_eq, unp3_eq, unp4_eq, shr8, shr16, RSl, RSr, RSm, RSx, RSp, acc, accZ, errA, wordsS, *]

/-- slot.fence: the loop 0 -/
def fenceG (W : List Int) (fa x : Int) : Nat → Int → Mo → Option (AV × Mo)
  | 0, i, O => none
  | m + 1, i, O => (
    (if 0 ≤ i then (
    if i < (((fa + 4).toNat - (fa + 1 + U.wordsI x).toNat : Nat) : Int) then (
      (match W[(fa + 1 + U.wordsI x).toNat + i.toNat]? with
      | some (y) => (
      if y = 0 then fenceG W fa x m (i + 1) O
      else some (.tup [.str [], .int .i64 12], O))
      | _ => none)
    )
    else (
      (match unpW W (fa + 1).toNat ((fa + 1 + U.wordsI x).toNat - (fa + 1).toNat) x with
      | some ((s, e)) => (
      some (.tup [.str s, .int .i64 e], O))
      | _ => none)
    ))
    else none)
  )
theorem fenceG_loop {S : Ms} (dp kp : Nat) (W : List Int) (fa x : Int) (h0 : 0 ≤ fa) (h1 : fa ≤ 100) (h2 : 0 ≤ U.wordsI x) (h3 : U.wordsI x ≤ 3) (hg : PgH S dp kp W) : ∀ (n : Nat) (i : Int) (O : Mo) (env : Env) (M : Nat) (r : AV) (O' : Mo) (h : fenceG W fa x n i O = some (r, O')) (hM : n < M) (e0 : env 0 = .ref (dp + 1) kp 0) (e1 : env 1 = .int .i64 fa) (e2 : env 6 = .int .i64 x) (e3 : env 7 = .int .i64 (fa + 1 + U.wordsI x)) (e4 : env 32 = .sref (dp + 1) kp (fa + 1 + U.wordsI x).toNat ((fa + 4).toNat - (fa + 1 + U.wordsI x).toNat) (128 - (fa + 1 + U.wordsI x).toNat)) (e5 : env 33 = .int .i64 (((fa + 4).toNat - (fa + 1 + U.wordsI x).toNat : Nat) : Int)) (e6 : env 34 = .int .i64 i),
    W80x0 cfgA (tabX [(81, spE wordsS), (82, unpG)]) 100000 (loopN (exec cfgA (tabX [(81, spE wordsS), (82, unpG)]) 100000 B80x0) [] M ⟨leOf 51 env, O, S ++ [[]]⟩) = some (r, O', S) := by
  have hgU : ∀ (O : Mo) (F : List ABlk), gm O (S ++ [F]) (dp + 1) kp = some (.arr (encW W)) := hg
  intro n
  induction n with
  | zero =>
    intro i O env M r O' h hM e0 e1 e2 e3 e4 e5 e6
    unfold fenceG at h
    first | (cases h; done) | (dsimp only at h; cases h; done) | (split at h <;> first | (cases h; done) | (exfalso; omega))
  | succ n ih =>
    intro i O env M r O' h hM e0 e1 e2 e3 e4 e5 e6
    obtain ⟨M, rfl⟩ : ∃ M', M = M' + 1 := ⟨M - 1, by omega⟩
    unfold fenceG at h
    repeat' (split at h)
    all_goals first | (cases h; done) | (dsimp only at h; cases h; done) | (exfalso; omega) | skip
    all_goals
      try dsimp only at h
      try simp only [acc, accZ, errA] at *
      first
        | (have hg_ : fenceG W fa x n _ _ = _ := h
           clear hg_
           simp (disch := first | decide | omega | assumption | exact isS_of (by assumption) | exact ixok_of (by assumption) (by omega) | exact slOk_of (by assumption) | exact bufOk_of (by assumption) (by omega) | exact ixok_ofR (by assumption) (by omega) | exact slOk_ofR (by assumption) | exact lenOk_of (by assumption) (by omega) | exact ixok_of8 (by assumption) (by omega) | exact ixok_ofW (by assumption) (by omega) | exact slOk_ofW (by assumption) | fail) only [loop_unf, loopK_N, loopK_E, loopK_R, RAs, RBs, RCs, RDs, REs, RFs, RGs, RHs, RIs, RJs, RKs, RLs, RRt, Nat.reduceLT, Nat.reduceEqDiff, Nat.reduceAdd, Nat.reduceSub, RXa, RXb, RXc, tn8, tn9, tn10, tn11, s_arr, s_arrS, Nat.zero_add, Nat.mul_one, bounds_eq, bnd_some, bnd_none, bndC_P, eq_self, unpG_eq, unp2_eq, unp3_eq, unp4_eq, shr8, shr16, RSl, RSr, RSm, RSx, RSp, wordsS, *]
           refine ih _ _ _ _ _ _ h (by omega) ?_ ?_ ?_ ?_ ?_ ?_ ?_
           all_goals simp (disch := first | decide | omega | assumption | exact isS_of (by assumption) | exact ixok_of (by assumption) (by omega) | exact slOk_of (by assumption) | exact bufOk_of (by assumption) (by omega) | exact ixok_ofR (by assumption) (by omega) | exact slOk_ofR (by assumption) | exact lenOk_of (by assumption) (by omega) | exact ixok_of8 (by assumption) (by omega) | exact ixok_ofW (by assumption) (by omega) | exact slOk_ofW (by assumption) | fail) only [RAs, RBs, RCs, RDs, REs, RFs, RGs, RHs, RIs, RJs, RKs, RLs, RRt, Nat.reduceLT, Nat.reduceEqDiff, Nat.reduceAdd, Nat.reduceSub, RXa, RXb, RXc, tn8, tn9, tn10, tn11, s_arr, s_arrS, Nat.zero_add, Nat.mul_one, bounds_eq, bnd_some, bnd_none, bndC_P, eq_self, unpG_eq, unp2_eq, unp3_eq, unp4_eq, shr8, shr16, RSl, RSr, RSm, RSx, RSp, *])
        | (simp only [Option.some.injEq, Prod.mk.injEq] at h
           obtain ⟨rfl, rfl⟩ := h
           simp (disch := first | decide | omega | assumption | exact isS_of (by assumption) | exact ixok_of (by assumption) (by omega) | exact slOk_of (by assumption) | exact bufOk_of (by assumption) (by omega) | exact ixok_ofR (by assumption) (by omega) | exact slOk_ofR (by assumption) | exact lenOk_of (by assumption) (by omega) | exact ixok_of8 (by assumption) (by omega) | exact ixok_ofW (by assumption) (by omega) | exact slOk_ofW (by assumption) | fail) only [W80x0, loop_unf, loopK_N, loopK_E, loopK_R, RAs, RBs, RCs, RDs, REs, RFs, RGs, RHs, RIs, RJs, RKs, RLs, RRt, Nat.reduceLT, Nat.reduceEqDiff, Nat.reduceAdd, Nat.reduceSub, RXa, RXb, RXc, tn8, tn9, tn10, tn11, s_arr, s_arrS, Nat.zero_add, Nat.mul_one, bounds_eq, bnd_some, bnd_none, bndC_P, eq_self, unpG_eq, unp2_eq, unp3_eq, unp4_eq, shr8, shr16, RSl, RSr, RSm, RSx, RSp, wordsS, *])

attribute [local irreducible] fenceG
/-- slot.fence -/
def fenceS : SpG := fun W args O =>
  match args with
  | [.int .i64 fa] => (
    (if 0 ≤ fa ∧ fa ≤ 100 then (
    (match W[fa.toNat]? with
    | some (x) => (
    (if 0 ≤ x ∧ x < 18446744073709551616 then (
    if 24 < x then some (.tup [.str [], .int .i64 12], O)
    else (
      (if 0 ≤ U.wordsI x ∧ U.wordsI x ≤ 3 then (
      fenceG W fa x 10 0 O)
      else none)
    ))
    else none))
    | _ => none))
    else none)
  )
  | _ => none
theorem fenceS_ok : PgOk Try.prog 80 fenceS := by
  intro W args O r O' h S dp kp hg0
  have hg : ∀ (O : Mo) (F : List ABlk), gm O (S ++ [F]) (dp + 1) kp = some (.arr (encW W)) := pg_push hg0
  clear hg0
  unfold fenceS at h
  repeat' (split at h)
  all_goals first | (cases h; done) | skip
  all_goals
    try simp only [acc, accZ, errA] at *
    first
      | (simp only [Option.some.injEq, Prod.mk.injEq] at h
         obtain ⟨rfl, rfl⟩ := h
         refine bodyA (tabX_cons (spE_ok wordsS_ok) (tabX_cons unpG_ok (tabX_nil _))) (n := 100000) F80_code ?_
         simp (disch := first | decide | omega | assumption | exact isS_of (by assumption) | exact ixok_of (by assumption) (by omega) | exact slOk_of (by assumption) | exact bufOk_of (by assumption) (by omega) | exact ixok_ofR (by assumption) (by omega) | exact slOk_ofR (by assumption) | exact lenOk_of (by assumption) (by omega) | exact ixok_of8 (by assumption) (by omega) | exact ixok_ofW (by assumption) (by omega) | exact slOk_ofW (by assumption) | fail) only [F80, RAs, RBs, RCs, RDs, REs, RFs, RGs, RHs, RIs, RJs, RKs, RLs, RRt, Nat.reduceLT, Nat.reduceEqDiff, Nat.reduceAdd, Nat.reduceSub, RXa, RXb, RXc, tn8, tn9, tn10, tn11, s_arr, s_arrS, Nat.zero_add, Nat.mul_one, bounds_eq, bnd_some, bnd_none, bndC_P, eq_self, unpG_eq, unp2_eq, unp3_eq, unp4_eq, shr8, shr16, RSl, RSr, RSm, RSx, RSp, acc, accZ, errA, wordsS, *])
      | (refine bodyA (tabX_cons (spE_ok wordsS_ok) (tabX_cons unpG_ok (tabX_nil _))) (n := 100000) F80_code ?_
         simp (disch := first | decide | omega | assumption | exact isS_of (by assumption) | exact ixok_of (by assumption) (by omega) | exact slOk_of (by assumption) | exact bufOk_of (by assumption) (by omega) | exact ixok_ofR (by assumption) (by omega) | exact slOk_ofR (by assumption) | exact lenOk_of (by assumption) (by omega) | exact ixok_of8 (by assumption) (by omega) | exact ixok_ofW (by assumption) (by omega) | exact slOk_ofW (by assumption) | fail) only [F80, RAs, RBs, RCs, RDs, REs, RFs, RGs, RHs, RIs, RJs, RKs, RLs, RRt, Nat.reduceLT, Nat.reduceEqDiff, Nat.reduceAdd, Nat.reduceSub, RXa, RXb, RXc, tn8, tn9, tn10, tn11, s_arr, s_arrS, Nat.zero_add, Nat.mul_one, bounds_eq, bnd_some, bnd_none, bndC_P, eq_self, unpG_eq, unp2_eq, unp3_eq, unp4_eq, shr8, shr16, RSl, RSr, RSm, RSx, RSp, e_loop, acc, accZ, errA, wordsS, *]
         refine (fin_skip _ _ _ _ _).trans ?_
         refine fenceG_loop _ _ _ _ _ (by first | omega | assumption) (by first | omega | assumption) (by first | omega | assumption) (by first | omega | assumption) (by first | omega | assumption) _ _ _ _ _ _ _ h (by omega) ?_ ?_ ?_ ?_ ?_ ?_ ?_
         all_goals simp (disch := first | decide | omega | assumption | exact isS_of (by assumption) | exact ixok_of (by assumption) (by omega) | exact slOk_of (by assumption) | exact bufOk_of (by assumption) (by omega) | exact ixok_ofR (by assumption) (by omega) | exact slOk_ofR (by assumption) | exact lenOk_of (by assumption) (by omega) | exact ixok_of8 (by assumption) (by omega) | exact ixok_ofW (by assumption) (by omega) | exact slOk_ofW (by assumption) | fail) only [RAs, RBs, RCs, RDs, REs, RFs, RGs, RHs, RIs, RJs, RKs, RLs, RRt, Nat.reduceLT, Nat.reduceEqDiff, Nat.reduceAdd, Nat.reduceSub, RXa, RXb, RXc, tn8, tn9, tn10, tn11, s_arr, s_arrS, Nat.zero_add, Nat.mul_one, bounds_eq, bnd_some, bnd_none, bndC_P, eq_self, unpG_eq, unp2_eq, unp3_eq, unp4_eq, shr8, shr16, RSl, RSr, RSm, RSx, RSp, *])

attribute [local irreducible] fenceS entryS
/-- slot.head -/
def headB (W : List Int) (O : Mo) : Option (AV × Mo) :=
  (match fenceS W [.int .i64 12] O with
  | some (.tup [.str s, .int .i64 e], O1) => (
  (match fenceS W [.int .i64 16] O1 with
  | some (.tup [.str t, .int .i64 f], O2) => (
  if e = 0 then (if f = 0 then some (.bool true, O2) else some (.bool false, O2)) else some (.bool false, O2))
  | _ => none))
  | _ => none)
def headS : SpG := fun W args O =>
  match args with
  | [] => (
    (match W[8]? with
    | some (k8) => (
    (if 0 ≤ k8 ∧ k8 < 18446744073709551616 then (
    if k8 < 1 then some (.bool false, O)
    else if 6 < k8 then some (.bool false, O)
    else (
      (match W[9]? with
      | some (k9) => (
      (if 0 ≤ k9 ∧ k9 < 18446744073709551616 then (
      if 108 < k9 then some (.bool false, O)
      else (
        (match W[10]? with
        | some (k10) => (
        (if 0 ≤ k10 ∧ k10 < 18446744073709551616 then (
        if 511 < k10 then some (.bool false, O)
        else (
          (match W[11]? with
          | some (k11) => (
          (if 0 ≤ k11 ∧ k11 < 18446744073709551616 then (
          if 128 < k11 then some (.bool false, O)
          else if k11 < 20 + k9 then some (.bool false, O)
          else headB W O)
          else none))
          | _ => none)
        ))
        else none))
        | _ => none)
      ))
      else none))
      | _ => none)
    ))
    else none))
    | _ => none)
  )
  | _ => none
theorem headS_ok : PgOk Try.prog 64 headS := by
  intro W args O r O' h S dp kp hg0
  have hg : ∀ (O : Mo) (F : List ABlk), gm O (S ++ [F]) (dp + 1) kp = some (.arr (encW W)) := pg_push hg0
  clear hg0
  unfold headS at h
  repeat' (split at h)
  all_goals first | (cases h; done) | skip
  all_goals try unfold headB at h
  all_goals try (repeat' (split at h))
  all_goals first | (cases h; done) | skip
  all_goals first | (cases h; done) | skip
  all_goals first | (exfalso; omega) | skip
  all_goals
    simp only [Option.some.injEq, Prod.mk.injEq] at h
    obtain ⟨rfl, rfl⟩ := h
    refine bodyA (tabX_cons (pgE_ok fenceS_ok) (tabX_nil _)) (n := 0) F64_code ?_
    try simp only [acc, accZ, errA] at *
    simp (disch := first | decide | omega | assumption | exact isS_of (by assumption) | exact ixok_of (by assumption) (by omega) | exact slOk_of (by assumption) | exact bufOk_of (by assumption) (by omega) | exact ixok_ofR (by assumption) (by omega) | exact slOk_ofR (by assumption) | exact lenOk_of (by assumption) (by omega) | exact ixok_of8 (by assumption) (by omega) | exact ixok_ofW (by assumption) (by omega) | exact slOk_ofW (by assumption) | fail) only [F64, RAs, RBs, RCs, RDs, REs, RFs, RGs, RHs, RIs, RJs, RKs, RLs, RRt, Nat.reduceLT, Nat.reduceEqDiff, Nat.reduceAdd, Nat.reduceSub, RXa, RXb, RXc, tn8, tn9, tn10, tn11, s_arr, s_arrS, Nat.zero_add, Nat.mul_one, bounds_eq, bnd_some, bnd_none, bndC_P, eq_self, unpG_eq, unp2_eq, unp3_eq, unp4_eq, shr8, shr16, RSl, RSr, RSm, RSx, RSp, acc, accZ, errA, *]

/-- slot.sized -/
def sizedC (W : List Int) (a en : Int) (O : Mo) : Option (AV × Mo) :=
  (match W[11]? with
  | some (k11) => (
  (if 0 ≤ k11 ∧ k11 < 18446744073709551616 then (
  if k11 ≤ a then (if en ≤ 128 then some (.bool true, O) else some (.bool false, O)) else some (.bool false, O))
  else none))
  | _ => none)
def sizedB (W : List Int) (k8 a en va : Int) (O : Mo) : Option (AV × Mo) :=
  if k8 = 1 then (if 40 < va then some (.bool false, O) else sizedC W a en O)
  else if va = 8 then sizedC W a en O else some (.bool false, O)
def sizedA (W : List Int) (i a en ky va : Int) (O : Mo) : Option (AV × Mo) :=
  (match W[8]? with
  | some (k8) => (
  (if 0 ≤ k8 ∧ k8 < 18446744073709551616 then (
  (if 0 ≤ a ∧ a ≤ 1000 then (
  if 24 < ky then some (.bool false, O)
  else if ky = 0 then (
    if k8 = 1 then some (.bool false, O)
    else if 0 < i then some (.bool false, O)
    else sizedB W k8 a en va O
  )
  else sizedB W k8 a en va O)
  else none))
  else none))
  | _ => none)
def sizedS : SpG := fun W args O =>
  match args with
  | [.int .i64 i] => (
    (if 0 ≤ i ∧ i ≤ 107 then (
    (match W[(20 + i).toNat]? with
    | some (w) => (
    (if 0 ≤ w ∧ w < 18446744073709551616 then (
    if 128 ≤ w / 65536 then some (.bool false, O)
    else (
      (match entryS [.int .u64 w] O with
      | some (.agg [.int .i64 a, .int .i64 mid, .int .i64 en, .int .i64 ky, .int .i64 va], O1) => (
      sizedA W i a en ky va O1)
      | _ => none)
    ))
    else none))
    | _ => none))
    else none)
  )
  | _ => none
theorem sizedS_ok : PgOk Try.prog 65 sizedS := by
  intro W args O r O' h S dp kp hg0
  have hg : ∀ (O : Mo) (F : List ABlk), gm O (S ++ [F]) (dp + 1) kp = some (.arr (encW W)) := pg_push hg0
  clear hg0
  unfold sizedS at h
  repeat' (split at h)
  all_goals first | (cases h; done) | skip
  all_goals try unfold sizedA at h
  all_goals try (repeat' (split at h))
  all_goals first | (cases h; done) | skip
  all_goals try unfold sizedB at h
  all_goals try (repeat' (split at h))
  all_goals first | (cases h; done) | skip
  all_goals try unfold sizedC at h
  all_goals try (repeat' (split at h))
  all_goals first | (cases h; done) | skip
  all_goals first | (cases h; done) | skip
  all_goals first | (exfalso; omega) | skip
  all_goals
    simp only [Option.some.injEq, Prod.mk.injEq] at h
    obtain ⟨rfl, rfl⟩ := h
    refine bodyA (tabX_cons (spE_ok entryS_ok) (tabX_nil _)) (n := 0) F65_code ?_
    try simp only [acc, accZ, errA] at *
    simp (disch := first | decide | omega | assumption | exact isS_of (by assumption) | exact ixok_of (by assumption) (by omega) | exact slOk_of (by assumption) | exact bufOk_of (by assumption) (by omega) | exact ixok_ofR (by assumption) (by omega) | exact slOk_ofR (by assumption) | exact lenOk_of (by assumption) (by omega) | exact ixok_of8 (by assumption) (by omega) | exact ixok_ofW (by assumption) (by omega) | exact slOk_ofW (by assumption) | fail) only [F65, RAs, RBs, RCs, RDs, REs, RFs, RGs, RHs, RIs, RJs, RKs, RLs, RRt, Nat.reduceLT, Nat.reduceEqDiff, Nat.reduceAdd, Nat.reduceSub, RXa, RXb, RXc, tn8, tn9, tn10, tn11, s_arr, s_arrS, Nat.zero_add, Nat.mul_one, bounds_eq, bnd_some, bnd_none, bndC_P, eq_self, unpG_eq, unp2_eq, unp3_eq, unp4_eq, shr8, shr16, RSl, RSr, RSm, RSx, RSp, acc, accZ, errA, *]

/-- slot.text -/
def textS : SpG := fun W args O =>
  match args with
  | [.agg [.int .i64 a, .int .i64 mid, .int .i64 en, .int .i64 ky, .int .i64 va]] => (
    (if 0 ≤ a ∧ a ≤ mid ∧ mid ≤ en ∧ en ≤ 128 then (
    (match unpW W a.toNat (mid.toNat - a.toNat) ky with
    | some ((s, e)) => (
    if e = 0 then (
      (match unpW W mid.toNat (en.toNat - mid.toNat) va with
      | some ((t, f)) => (
      some (.tup [.agg [.str s, .str t], .int .i64 f], O))
      | _ => none)
    )
    else some (.tup [.agg [.str [], .str []], .int .i64 e], O))
    | _ => none))
    else none)
  )
  | _ => none
theorem textS_ok : PgOk Try.prog 67 textS := by
  intro W args O r O' h S dp kp hg0
  have hg : ∀ (O : Mo) (F : List ABlk), gm O (S ++ [F]) (dp + 1) kp = some (.arr (encW W)) := pg_push hg0
  clear hg0
  unfold textS at h
  repeat' (split at h)
  all_goals first | (cases h; done) | skip
  all_goals
    simp only [Option.some.injEq, Prod.mk.injEq] at h
    obtain ⟨rfl, rfl⟩ := h
    refine bodyA (tabX_cons unpG_ok (tabX_nil _)) (n := 0) F67_code ?_
    try simp only [acc, accZ, errA] at *
    simp (disch := first | decide | omega | assumption | exact isS_of (by assumption) | exact ixok_of (by assumption) (by omega) | exact slOk_of (by assumption) | exact bufOk_of (by assumption) (by omega) | exact ixok_ofR (by assumption) (by omega) | exact slOk_ofR (by assumption) | exact lenOk_of (by assumption) (by omega) | exact ixok_of8 (by assumption) (by omega) | exact ixok_ofW (by assumption) (by omega) | exact slOk_ofW (by assumption) | fail) only [F67, RAs, RBs, RCs, RDs, REs, RFs, RGs, RHs, RIs, RJs, RKs, RLs, RRt, Nat.reduceLT, Nat.reduceEqDiff, Nat.reduceAdd, Nat.reduceSub, RXa, RXb, RXc, tn8, tn9, tn10, tn11, s_arr, s_arrS, Nat.zero_add, Nat.mul_one, bounds_eq, bnd_some, bnd_none, bndC_P, eq_self, unpG_eq, unp2_eq, unp3_eq, unp4_eq, shr8, shr16, RSl, RSr, RSm, RSx, RSp, acc, accZ, errA, *]

end Den
