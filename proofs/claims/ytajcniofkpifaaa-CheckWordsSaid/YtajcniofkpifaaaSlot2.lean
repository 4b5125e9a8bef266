/- The contract of slot.list. -/
import Derived.Test.YtajcniofkpifaaaSlot
set_option maxRecDepth 100000
set_option maxHeartbeats 4000000
set_option linter.unusedSimpArgs false
set_option linter.unusedVariables false
namespace Den
open Go Go.Proofs

/-! A slice of pairs that this frame grows, in one of its blocks behind the first one -/
abbrev LP := Option (Nat × Nat)
def lvOf (S : Ms) : LP → AV
  | none => .nils
  | some (q, n) => .bref (S.length + 1) (q + 1) 0 n (2 * n)
def isStr : AV → Bool
  | .str _ => true
  | _ => false
theorem isStr_low {lim : Nat} {cs : List AV} (h : cs.all isStr = true) : cs.all (AV.low lim) = true :=
  List.all_eq_true.2 fun v hv => by
    have := List.all_eq_true.1 h v hv
    cases v <;> first | (cases this; done) | rfl
def growPF (lp : Option (Nat × Nat)) (jk : List ABlk) (a b : List UInt8) : Option (Option (Nat × Nat) × List ABlk) :=
  match lp with
  | none => some (some (jk.length, 1), jk ++ [.buf 2 [.str a, .str b]])
  | some (q, n) => match jk[q]? with
    | some (.buf 2 cs) => if cs.length = 2 * n ∧ n ≤ 1000 then some (some (q, n + 1), jk.set q (.buf 2 (cs ++ [.str a, .str b]))) else none
    | _ => none
theorem lv_none (S : Ms) : lvOf S none = .nils := rfl
theorem modLast (f : List ABlk → List ABlk) : ∀ (B : Ms) (F : List ABlk), (B ++ [F]).modify B.length f = B ++ [f F]
  | [], F => rfl
  | b :: B, F => by
    show (b :: (B ++ [F])).modify (B.length + 1) f = _
    rw [List.modify_succ_cons, modLast f B F]; rfl
theorem gr_pairF {S : Ms} {tk : List AV} {lp : Option (Nat × Nat)} {jk : List ABlk} {a b : List UInt8} (O : Mo) (h : (growPF lp jk a b).isSome = true) :
    appC 2 32 false (lvOf S lp) (some ([.str a, .str b], 1)) O (S ++ [.arr tk :: jk]) = some (lvOf S ((growPF lp jk a b).getD (none, [])).1, O, S ++ [.arr tk :: ((growPF lp jk a b).getD (none, [])).2]) := by
  obtain ⟨p, hp⟩ := Option.isSome_iff_exists.1 h
  rw [hp]
  unfold growPF at hp
  split at hp
  · cases hp
    simp [appC, appA, lvOf, m_newD, m_newK, m_newO, m_newS, AV.low]
  · rename_i q n
    split at hp
    · rename_i cs hq
      split at hp
      · rename_i hc
        cases hp
        obtain ⟨hl, hn⟩ := hc
        have hg : gm O (S ++ [ABlk.arr tk :: jk]) (S.length + 1) (q + 1) = some (.buf 2 cs) := by
          rw [gm_top]; simpa using hq
        have e0 : n * 2 = 2 * n ∧ cs.length = 2 * n ∧ (n + 1) * 32 * 2 ≤ 2 ^ 47 := ⟨by omega, hl, by omega⟩
        simp only [appC, appA, lvOf, hg]
        rw [if_pos ⟨trivial, trivial, e0.1, e0.2.1, e0.2.2, by simp [AV.low]⟩]
        have e1 : (S ++ [ABlk.arr tk :: jk]).modify S.length (fun l => l.set (q + 1) (.buf 2 (cs ++ [.str a, .str b]))) = S ++ [ABlk.arr tk :: jk.set q (.buf 2 (cs ++ [.str a, .str b]))] := by
          rw [modLast]; rfl
        have e2 : 2 * n + [AV.str a, AV.str b].length = 2 * (n + 1) := by simp; omega
        simp only [smO, smS, lvOf, e1, e2, Option.getD_some]
        simp
      · cases hp
    · cases hp
def resP (lp : Option (Nat × Nat)) (jk : List ABlk) : Option AV :=
  match lp with
  | none => some .nils
  | some (q, n) => match jk[q]? with
    | some (.buf 2 cs) => if cs.length = 2 * n ∧ 1 ≤ n ∧ cs.all isStr = true then some (.isl cs n) else none
    | _ => none
theorem snap_lv {S : Ms} {tk : List AV} {lp : Option (Nat × Nat)} {jk : List ABlk} (h : (resP lp jk).isSome = true) : snap2 (S ++ [.arr tk :: jk]) (lvOf S lp) = some ((resP lp jk).getD .undef) := by
  obtain ⟨p, hp⟩ := Option.isSome_iff_exists.1 h
  rw [hp]
  unfold resP at hp
  split at hp
  · cases hp; rfl
  · rename_i q n
    split at hp
    · rename_i cs hq
      split at hp
      · rename_i hc
        cases hp
        obtain ⟨hl, hn, ha⟩ := hc
        have hg : gm [] (S ++ [ABlk.arr tk :: jk]) (S.length + 1) (q + 1) = some (.buf 2 cs) := by
          rw [gm_top]; simpa using hq
        have h0 : ¬ n = 0 := by omega
        have hlen : S.length + 1 = (S ++ [ABlk.arr tk :: jk]).length := by simp
        show snap1 _ (AV.bref (S.length + 1) (q + 1) 0 n (2 * n)) = _
        unfold snap1
        simp only []
        rw [if_pos hlen, if_neg h0, hg]
        simp only []
        rw [if_pos ⟨hl, trivial, by omega, isStr_low ha⟩]; rfl
      · cases hp
    · cases hp
theorem bsl_pair (a b : List UInt8) (O : Mo) (S : Ms) : bslC 2 1 false false (some [.str a, .str b]) O S = some (.isl [.str a, .str b] 1, O, S) := by
  simp [bslC, AV.low]
theorem c_pair (a b : List UInt8) (O : Mo) (S : Ms) : conts O S 2 (.isl [.str a, .str b] 1) = some ([.str a, .str b], 1) := by
  simp [conts]
/-- slot.list: the loop 0 -/
def listI (W : List Int) (cn i a mid en ky va : Int) (ks vs : List UInt8) (lp : LP) (jk : List ABlk) (K : Int → LP → List AV → List ABlk → Mo → Option (AV × Mo)) : Nat → Int → List AV → Mo → Option (AV × Mo)
  | 0, w, tk, O => none
  | m + 1, w, tk, O => (
    (if 0 ≤ w then (
    (if tk.length = 128 then (
    if w < en then
      match tk[w.toNat]? with
      | some (.bool true) => some (.tup [.nils, .bool false], O)
      | some (.bool false) => listI W cn i a mid en ky va ks vs lp jk K m (w + 1) (tk.set w.toNat (.bool true)) O
      | _ => none
    else (
      (match growPF lp (jk ++ [ABlk.arr [.int .i64 a, .int .i64 mid, .int .i64 en, .int .i64 ky, .int .i64 va]] ++ [ABlk.arr [.str ks, .str vs]]) ks vs with
      | some ((lp2, jk2)) => (
      K (i + 1) lp2 tk jk2 O)
      | _ => none)
    ))
    else none))
    else none)
  )
theorem listI_loop {S : Ms} (dp kp : Nat) (W : List Int) (cn i a mid en ky va : Int) (ks vs : List UInt8) (lp : LP) (jk : List ABlk) (K :  Int →  LP →  List AV →  List ABlk → Mo → Option (AV × Mo)) (h0 : 0 ≤ i) (h1 : i ≤ 1000) (h2 : en ≤ 128) (hg : PgH S dp kp W) (Mx : Nat) (hK : ∀ (i : Int) (lp : LP) (tk : List AV) (jk : List ABlk) (O : Mo) (env : Env) (r : AV) (O' : Mo), K i lp tk jk O = some (r, O') → env 0 = .ref (dp + 1) kp 0 → env 18 = .int .i64 cn → env 19 = .int .i64 i → env 4 = lvOf S lp → env 5 = .ref (S.length + 1) 0 0 → W46x1 cfgA (tabX [(64, pgE headS), (65, pgE sizedS), (66, spE entryS), (67, pgE textS)]) 100000 (loopN (exec cfgA (tabX [(64, pgE headS), (65, pgE sizedS), (66, spE entryS), (67, pgE textS)]) 100000 B46x1) [] Mx ⟨leOf 85 env, O, S ++ [ABlk.arr tk :: jk]⟩) = some (r, O', S)) : ∀ (n : Nat) (w : Int) (tk : List AV) (O : Mo) (env : Env) (M : Nat) (r : AV) (O' : Mo) (h : listI W cn i a mid en ky va ks vs lp jk K n w tk O = some (r, O')) (hM : n < M) (e0 : env 0 = .ref (dp + 1) kp 0) (e1 : env 18 = .int .i64 cn) (e2 : env 19 = .int .i64 i) (e3 : env 4 = lvOf S lp) (e4 : env 5 = .ref (S.length + 1) 0 0) (e5 : env 7 = .ref (S.length + 1) (jk.length + 1) 0) (e6 : env 8 = .ref (S.length + 1) ((jk ++ [ABlk.arr [.int .i64 a, .int .i64 mid, .int .i64 en, .int .i64 ky, .int .i64 va]]).length + 1) 0) (e7 : env 10 = .int .i64 w),
    W46x1 cfgA (tabX [(64, pgE headS), (65, pgE sizedS), (66, spE entryS), (67, pgE textS)]) 100000 (loopK (exec cfgA (tabX [(64, pgE headS), (65, pgE sizedS), (66, spE entryS), (67, pgE textS)]) 100000 B46x1) Mx (seqC (cfg := cfgA) (call := tabX [(64, pgE headS), (65, pgE sizedS), (66, spE entryS), (67, pgE textS)]) 100000 (blockC 1 (seqC (cfg := cfgA) (call := tabX [(64, pgE headS), (65, pgE sizedS), (66, spE entryS), (67, pgE textS)]) 100000 (blockC 2 (loopN (exec cfgA (tabX [(64, pgE headS), (65, pgE sizedS), (66, spE entryS), (67, pgE textS)]) 100000 B46x0) [] M ⟨leOf 85 env, O, S ++ [ABlk.arr tk :: (jk ++ [ABlk.arr [.int .i64 a, .int .i64 mid, .int .i64 en, .int .i64 ky, .int .i64 va]] ++ [ABlk.arr [.str ks, .str vs]])]⟩)) (.ops 20 [⟨some 79, none, .mv (.t 4), []⟩,
 ⟨some 80, none, .ld 2 true (.t 8), []⟩,
 ⟨some 81, none, .bslice [.str [], .str []] 2 1 [(0, (.t 80))] false false, []⟩,
 ⟨some 82, none, .app 2 32 (.t 79) (.t 81) false, []⟩,
 ⟨some 4, none, .mv (.t 82), []⟩]))) (.ops 21 [⟨some 83, none, .bin .add (.t 19) (.c (.int .i64 1)), []⟩,
 ⟨some 19, none, .mv (.t 83), []⟩]))) = some (r, O', S) := by
  have hgU : ∀ (O : Mo) (F : List ABlk), gm O (S ++ [F]) (dp + 1) kp = some (.arr (encW W)) := hg
  intro n
  induction n with
  | zero =>
    intro w tk O env M r O' h hM e0 e1 e2 e3 e4 e5 e6 e7
    unfold listI at h
    first | (cases h; done) | (dsimp only at h; cases h; done) | (split at h <;> first | (cases h; done) | (exfalso; omega))
  | succ n ih =>
    intro w tk O env M r O' h hM e0 e1 e2 e3 e4 e5 e6 e7
    obtain ⟨M, rfl⟩ : ∃ M', M = M' + 1 := ⟨M - 1, by omega⟩
    unfold listI at h
    repeat' (split at h)
    all_goals first | (cases h; done) | (dsimp only at h; cases h; done) | (exfalso; omega) | skip
    all_goals
      try dsimp only at h
      try simp only [acc, accZ, errA] at *
      first
        | (have hg_ : listI W cn i a mid en ky va ks vs lp jk K n _ _ _ = _ := h
           clear hg_
           simp (disch := first | decide | omega | assumption | exact isS_of (by assumption) | exact ixok_of (by assumption) (by omega) | exact slOk_of (by assumption) | exact bufOk_of (by assumption) (by omega) | exact ixok_ofR (by assumption) (by omega) | exact slOk_ofR (by assumption) | exact lenOk_of (by assumption) (by omega) | exact ixok_of8 (by assumption) (by omega) | exact ixok_ofW (by assumption) (by omega) | exact slOk_ofW (by assumption) | fail) only [loop_unf, loopK_N, loopK_E, loopK_R, RAs, RBs, RCs, RDs, REs, RFs, RGs, RHs, RIs, RJs, RKs, RLs, RRt, Nat.reduceLT, Nat.reduceEqDiff, Nat.reduceAdd, Nat.reduceSub, RXa, RXb, RXc, lv_none, Nat.zero_mul, List.take_zero, getS, tn8, tn9, tn10, tn11, s_arr, s_arrS, Nat.zero_add, Nat.mul_one, bounds_eq, bnd_some, bnd_none, bndC_P, eq_self, gr_pairF, snap_lv, bsl_pair, c_pair, RSl, RSr, RSm, RSx, RSp, *]
           refine ih _ _ _ _ _ _ _ h (by omega) ?_ ?_ ?_ ?_ ?_ ?_ ?_ ?_
           all_goals simp (disch := first | decide | omega | assumption | exact isS_of (by assumption) | exact ixok_of (by assumption) (by omega) | exact slOk_of (by assumption) | exact bufOk_of (by assumption) (by omega) | exact ixok_ofR (by assumption) (by omega) | exact slOk_ofR (by assumption) | exact lenOk_of (by assumption) (by omega) | exact ixok_of8 (by assumption) (by omega) | exact ixok_ofW (by assumption) (by omega) | exact slOk_ofW (by assumption) | fail) only [RAs, RBs, RCs, RDs, REs, RFs, RGs, RHs, RIs, RJs, RKs, RLs, RRt, Nat.reduceLT, Nat.reduceEqDiff, Nat.reduceAdd, Nat.reduceSub, RXa, RXb, RXc, lv_none, Nat.zero_mul, List.take_zero, getS, tn8, tn9, tn10, tn11, s_arr, s_arrS, Nat.zero_add, Nat.mul_one, bounds_eq, bnd_some, bnd_none, bndC_P, eq_self, gr_pairF, snap_lv, bsl_pair, c_pair, RSl, RSr, RSm, RSx, RSp, *])
        | (have hg_ : K _ _ _ _ _ = _ := h
           clear hg_
           simp (disch := first | decide | omega | assumption | exact isS_of (by assumption) | exact ixok_of (by assumption) (by omega) | exact slOk_of (by assumption) | exact bufOk_of (by assumption) (by omega) | exact ixok_ofR (by assumption) (by omega) | exact slOk_ofR (by assumption) | exact lenOk_of (by assumption) (by omega) | exact ixok_of8 (by assumption) (by omega) | exact ixok_ofW (by assumption) (by omega) | exact slOk_ofW (by assumption) | fail) only [loop_unf, loopK_N, loopK_E, loopK_R, RAs, RBs, RCs, RDs, REs, RFs, RGs, RHs, RIs, RJs, RKs, RLs, RRt, Nat.reduceLT, Nat.reduceEqDiff, Nat.reduceAdd, Nat.reduceSub, RXa, RXb, RXc, lv_none, Nat.zero_mul, List.take_zero, getS, tn8, tn9, tn10, tn11, s_arr, s_arrS, Nat.zero_add, Nat.mul_one, bounds_eq, bnd_some, bnd_none, bndC_P, eq_self, gr_pairF, snap_lv, bsl_pair, c_pair, RSl, RSr, RSm, RSx, RSp, *]
           refine hK _ _ _ _ _ _ _ _ h ?_ ?_ ?_ ?_ ?_
           all_goals simp (disch := first | decide | omega | assumption | exact isS_of (by assumption) | exact ixok_of (by assumption) (by omega) | exact slOk_of (by assumption) | exact bufOk_of (by assumption) (by omega) | exact ixok_ofR (by assumption) (by omega) | exact slOk_ofR (by assumption) | exact lenOk_of (by assumption) (by omega) | exact ixok_of8 (by assumption) (by omega) | exact ixok_ofW (by assumption) (by omega) | exact slOk_ofW (by assumption) | fail) only [RAs, RBs, RCs, RDs, REs, RFs, RGs, RHs, RIs, RJs, RKs, RLs, RRt, Nat.reduceLT, Nat.reduceEqDiff, Nat.reduceAdd, Nat.reduceSub, RXa, RXb, RXc, lv_none, Nat.zero_mul, List.take_zero, getS, tn8, tn9, tn10, tn11, s_arr, s_arrS, Nat.zero_add, Nat.mul_one, bounds_eq, bnd_some, bnd_none, bndC_P, eq_self, gr_pairF, snap_lv, bsl_pair, c_pair, RSl, RSr, RSm, RSx, RSp, *])
        | (simp only [Option.some.injEq, Prod.mk.injEq] at h
           obtain ⟨rfl, rfl⟩ := h
           simp (disch := first | decide | omega | assumption | exact isS_of (by assumption) | exact ixok_of (by assumption) (by omega) | exact slOk_of (by assumption) | exact bufOk_of (by assumption) (by omega) | exact ixok_ofR (by assumption) (by omega) | exact slOk_ofR (by assumption) | exact lenOk_of (by assumption) (by omega) | exact ixok_of8 (by assumption) (by omega) | exact ixok_ofW (by assumption) (by omega) | exact slOk_ofW (by assumption) | fail) only [W46x1, loop_unf, loopK_N, loopK_E, loopK_R, RAs, RBs, RCs, RDs, REs, RFs, RGs, RHs, RIs, RJs, RKs, RLs, RRt, Nat.reduceLT, Nat.reduceEqDiff, Nat.reduceAdd, Nat.reduceSub, RXa, RXb, RXc, lv_none, Nat.zero_mul, List.take_zero, getS, tn8, tn9, tn10, tn11, s_arr, s_arrS, Nat.zero_add, Nat.mul_one, bounds_eq, bnd_some, bnd_none, bndC_P, eq_self, gr_pairF, snap_lv, bsl_pair, c_pair, RSl, RSr, RSm, RSx, RSp, *])

attribute [local irreducible] listI
/-- slot.list: the loop 1 -/
def listB (W : List Int) (cn i a mid en ky va : Int) (ks vs : List UInt8) (lp : LP) (tk : List AV) (jk : List ABlk) (K : Int → LP → List AV → List ABlk → Mo → Option (AV × Mo)) (O : Mo) : Option (AV × Mo) :=
  (match W[8]? with
  | some (k8) => (
  (if 0 ≤ k8 ∧ k8 < 18446744073709551616 then (
  if 1 < k8 then (
    (if 0 ≤ mid ∧ mid ≤ 127 then (
    (match W[mid.toNat]? with
    | some (c) => (
    (if 0 ≤ c ∧ c < 18446744073709551616 then (
    if c < 1 then some (.tup [.nils, .bool false], O)
    else if 511 < c then some (.tup [.nils, .bool false], O)
    else listI W cn i a mid en ky va ks vs lp jk K 200 a tk O)
    else none))
    | _ => none))
    else none)
  )
  else listI W cn i a mid en ky va ks vs lp jk K 200 a tk O)
  else none))
  | _ => none)
def listA (W : List Int) (cn i : Int) (lp : LP) (tk : List AV) (jk : List ABlk) (K : Int → LP → List AV → List ABlk → Mo → Option (AV × Mo)) (O : Mo) : Option (AV × Mo) :=
  (match W[(20 + i).toNat]? with
  | some (w) => (
  (if 0 ≤ w ∧ w < 18446744073709551616 then (
  (if 0 ≤ i ∧ i ≤ 107 then (
  (match entryS [.int .u64 w] O with
  | some (.agg [.int .i64 a, .int .i64 mid, .int .i64 en, .int .i64 ky, .int .i64 va], O1) => (
  (match textS W [.agg [.int .i64 a, .int .i64 mid, .int .i64 en, .int .i64 ky, .int .i64 va]] O1 with
  | some (.tup [.agg [.str ks, .str vs], .int .i64 e], O2) => (
  (if en ≤ 128 then (
  if e = 0 then listB W cn i a mid en ky va ks vs lp tk jk K O2
  else some (.tup [.nils, .bool false], O2))
  else none))
  | _ => none))
  | _ => none))
  else none))
  else none))
  | _ => none)
def listG (W : List Int) (cn : Int) : Nat → Int → LP → List AV → List ABlk → Mo → Option (AV × Mo)
  | 0, i, lp, tk, jk, O => none
  | m + 1, i, lp, tk, jk, O => (
    (if 0 ≤ i ∧ i ≤ 1000 then (
    if i < cn then
      match sizedS W [.int .i64 i] O with
      | some (.bool false, Oa) => some (.tup [.nils, .bool false], Oa)
      | some (.bool true, Oa) => listA W cn i lp tk jk (fun i lp tk jk O => listG W cn m i lp tk jk O) Oa
      | _ => none
    else
      match resP lp jk with
      | some v => some (.tup [v, .bool true], O)
      | none => none)
    else none)
  )
theorem listG_loop {S : Ms} (dp kp : Nat) (W : List Int) (cn : Int) (h0 : cn ≤ 108) (hg : PgH S dp kp W) : ∀ (n : Nat) (i : Int) (lp : LP) (tk : List AV) (jk : List ABlk) (O : Mo) (env : Env) (M : Nat) (r : AV) (O' : Mo) (h : listG W cn n i lp tk jk O = some (r, O')) (hM : n < M) (e0 : env 0 = .ref (dp + 1) kp 0) (e1 : env 18 = .int .i64 cn) (e2 : env 19 = .int .i64 i) (e3 : env 4 = lvOf S lp) (e4 : env 5 = .ref (S.length + 1) 0 0),
    W46x1 cfgA (tabX [(64, pgE headS), (65, pgE sizedS), (66, spE entryS), (67, pgE textS)]) 100000 (loopN (exec cfgA (tabX [(64, pgE headS), (65, pgE sizedS), (66, spE entryS), (67, pgE textS)]) 100000 B46x1) [] M ⟨leOf 85 env, O, S ++ [ABlk.arr tk :: jk]⟩) = some (r, O', S) := by
  have hgU : ∀ (O : Mo) (F : List ABlk), gm O (S ++ [F]) (dp + 1) kp = some (.arr (encW W)) := hg
  intro n
  induction n with
  | zero =>
    intro i lp tk jk O env M r O' h hM e0 e1 e2 e3 e4
    unfold listG at h
    first | (cases h; done) | (dsimp only at h; cases h; done) | (split at h <;> first | (cases h; done) | (exfalso; omega))
  | succ n ih =>
    intro i lp tk jk O env M r O' h hM e0 e1 e2 e3 e4
    obtain ⟨M, rfl⟩ : ∃ M', M = M' + 1 := ⟨M - 1, by omega⟩
    unfold listG at h
    repeat' (split at h)
    all_goals first | (cases h; done) | (dsimp only at h; cases h; done) | (exfalso; omega) | skip
    all_goals try unfold listA at h
    all_goals try (repeat' (split at h))
    all_goals first | (cases h; done) | (dsimp only at h; cases h; done) | (exfalso; omega) | skip
    all_goals try unfold listB at h
    all_goals try (repeat' (split at h))
    all_goals first | (cases h; done) | (dsimp only at h; cases h; done) | (exfalso; omega) | skip
    all_goals
      try dsimp only at h
      try simp only [acc, accZ, errA] at *
      first
        | (have hg_ : listG W cn n _ _ _ _ _ = _ := h
           clear hg_
           simp (disch := first | decide | omega | assumption | exact isS_of (by assumption) | exact ixok_of (by assumption) (by omega) | exact slOk_of (by assumption) | exact bufOk_of (by assumption) (by omega) | exact ixok_ofR (by assumption) (by omega) | exact slOk_ofR (by assumption) | exact lenOk_of (by assumption) (by omega) | exact ixok_of8 (by assumption) (by omega) | exact ixok_ofW (by assumption) (by omega) | exact slOk_ofW (by assumption) | fail) only [loop_unf, loopK_N, loopK_E, loopK_R, RAs, RBs, RCs, RDs, REs, RFs, RGs, RHs, RIs, RJs, RKs, RLs, RRt, Nat.reduceLT, Nat.reduceEqDiff, Nat.reduceAdd, Nat.reduceSub, RXa, RXb, RXc, lv_none, Nat.zero_mul, List.take_zero, getS, tn8, tn9, tn10, tn11, s_arr, s_arrS, Nat.zero_add, Nat.mul_one, bounds_eq, bnd_some, bnd_none, bndC_P, eq_self, gr_pairF, snap_lv, bsl_pair, c_pair, RSl, RSr, RSm, RSx, RSp, *]
           refine ih _ _ _ _ _ _ _ _ _ h (by omega) ?_ ?_ ?_ ?_ ?_
           all_goals simp (disch := first | decide | omega | assumption | exact isS_of (by assumption) | exact ixok_of (by assumption) (by omega) | exact slOk_of (by assumption) | exact bufOk_of (by assumption) (by omega) | exact ixok_ofR (by assumption) (by omega) | exact slOk_ofR (by assumption) | exact lenOk_of (by assumption) (by omega) | exact ixok_of8 (by assumption) (by omega) | exact ixok_ofW (by assumption) (by omega) | exact slOk_ofW (by assumption) | fail) only [RAs, RBs, RCs, RDs, REs, RFs, RGs, RHs, RIs, RJs, RKs, RLs, RRt, Nat.reduceLT, Nat.reduceEqDiff, Nat.reduceAdd, Nat.reduceSub, RXa, RXb, RXc, lv_none, Nat.zero_mul, List.take_zero, getS, tn8, tn9, tn10, tn11, s_arr, s_arrS, Nat.zero_add, Nat.mul_one, bounds_eq, bnd_some, bnd_none, bndC_P, eq_self, gr_pairF, snap_lv, bsl_pair, c_pair, RSl, RSr, RSm, RSx, RSp, *])
        | (have hg_ : listI _ _ _ _ _ _ _ _ _ _ _ _ _ _ _ _ _ = _ := h
           clear hg_
           simp (disch := first | decide | omega | assumption | exact isS_of (by assumption) | exact ixok_of (by assumption) (by omega) | exact slOk_of (by assumption) | exact bufOk_of (by assumption) (by omega) | exact ixok_ofR (by assumption) (by omega) | exact slOk_ofR (by assumption) | exact lenOk_of (by assumption) (by omega) | exact ixok_of8 (by assumption) (by omega) | exact ixok_ofW (by assumption) (by omega) | exact slOk_ofW (by assumption) | fail) only [loop_unf, loopK_N, loopK_E, loopK_R, RAs, RBs, RCs, RDs, REs, RFs, RGs, RHs, RIs, RJs, RKs, RLs, RRt, Nat.reduceLT, Nat.reduceEqDiff, Nat.reduceAdd, Nat.reduceSub, RXa, RXb, RXc, lv_none, Nat.zero_mul, List.take_zero, getS, tn8, tn9, tn10, tn11, s_arr, s_arrS, Nat.zero_add, Nat.mul_one, bounds_eq, bnd_some, bnd_none, bndC_P, eq_self, gr_pairF, snap_lv, bsl_pair, c_pair, RSl, RSr, RSm, RSx, RSp, *]
           refine listI_loop _ _ _ _ _ _ _ _ _ _ _ _ _ _ _ (by first | omega | assumption) (by first | omega | assumption) (by first | omega | assumption) (by first | omega | assumption) _ (fun x0 x1 x2 x3 O env r O' h y0 y1 y2 y3 y4 => ih x0 x1 x2 x3 O env _ r O' h (by omega) y0 y1 y2 y3 y4) _ _ _ _ _ _ _ _ h (by omega) ?_ ?_ ?_ ?_ ?_ ?_ ?_ ?_
           all_goals simp (disch := first | decide | omega | assumption | exact isS_of (by assumption) | exact ixok_of (by assumption) (by omega) | exact slOk_of (by assumption) | exact bufOk_of (by assumption) (by omega) | exact ixok_ofR (by assumption) (by omega) | exact slOk_ofR (by assumption) | exact lenOk_of (by assumption) (by omega) | exact ixok_of8 (by assumption) (by omega) | exact ixok_ofW (by assumption) (by omega) | exact slOk_ofW (by assumption) | fail) only [RAs, RBs, RCs, RDs, REs, RFs, RGs, RHs, RIs, RJs, RKs, RLs, RRt, Nat.reduceLT, Nat.reduceEqDiff, Nat.reduceAdd, Nat.reduceSub, RXa, RXb, RXc, lv_none, Nat.zero_mul, List.take_zero, getS, tn8, tn9, tn10, tn11, s_arr, s_arrS, Nat.zero_add, Nat.mul_one, bounds_eq, bnd_some, bnd_none, bndC_P, eq_self, gr_pairF, snap_lv, bsl_pair, c_pair, RSl, RSr, RSm, RSx, RSp, *])
        | (simp only [Option.some.injEq, Prod.mk.injEq] at h
           obtain ⟨rfl, rfl⟩ := h
           simp (disch := first | decide | omega | assumption | exact isS_of (by assumption) | exact ixok_of (by assumption) (by omega) | exact slOk_of (by assumption) | exact bufOk_of (by assumption) (by omega) | exact ixok_ofR (by assumption) (by omega) | exact slOk_ofR (by assumption) | exact lenOk_of (by assumption) (by omega) | exact ixok_of8 (by assumption) (by omega) | exact ixok_ofW (by assumption) (by omega) | exact slOk_ofW (by assumption) | fail) only [W46x1, loop_unf, loopK_N, loopK_E, loopK_R, RAs, RBs, RCs, RDs, REs, RFs, RGs, RHs, RIs, RJs, RKs, RLs, RRt, Nat.reduceLT, Nat.reduceEqDiff, Nat.reduceAdd, Nat.reduceSub, RXa, RXb, RXc, lv_none, Nat.zero_mul, List.take_zero, getS, tn8, tn9, tn10, tn11, s_arr, s_arrS, Nat.zero_add, Nat.mul_one, bounds_eq, bnd_some, bnd_none, bndC_P, eq_self, gr_pairF, snap_lv, bsl_pair, c_pair, RSl, RSr, RSm, RSx, RSp, *])

attribute [local irreducible] listG headS sizedS textS
/-- slot.list -/
def listS : SpG := fun W args O =>
  match args with
  | [] => (
    match headS W [] O with
    | some (.bool false, Oa) => some (.tup [.nils, .bool false], Oa)
    | some (.bool true, Oa) => (
      (match W[9]? with
      | some (k9) => (
      (if 0 ≤ k9 ∧ k9 ≤ 108 then (
      listG W k9 110 0 none (List.replicate 128 (.bool false)) [] Oa)
      else none))
      | _ => none)
    )
    | _ => none
  )
  | _ => none
theorem listS_ok : PgOk Try.prog 46 listS := by
  intro W args O r O' h S dp kp hg0
  have hg : ∀ (O : Mo) (F : List ABlk), gm O (S ++ [F]) (dp + 1) kp = some (.arr (encW W)) := pg_push hg0
  clear hg0
  unfold listS at h
  repeat' (split at h)
  all_goals first | (cases h; done) | skip
  all_goals
    try simp only [acc, accZ, errA] at *
    first
      | (simp only [Option.some.injEq, Prod.mk.injEq] at h
         obtain ⟨rfl, rfl⟩ := h
         refine bodyA (tabX_cons (pgE_ok headS_ok) (tabX_cons (pgE_ok sizedS_ok) (tabX_cons (spE_ok entryS_ok) (tabX_cons (pgE_ok textS_ok) (tabX_nil _))))) (n := 100000) F46_code ?_
         simp (disch := first | decide | omega | assumption | exact isS_of (by assumption) | exact ixok_of (by assumption) (by omega) | exact slOk_of (by assumption) | exact bufOk_of (by assumption) (by omega) | exact ixok_ofR (by assumption) (by omega) | exact slOk_ofR (by assumption) | exact lenOk_of (by assumption) (by omega) | exact ixok_of8 (by assumption) (by omega) | exact ixok_ofW (by assumption) (by omega) | exact slOk_ofW (by assumption) | fail) only [F46, RAs, RBs, RCs, RDs, REs, RFs, RGs, RHs, RIs, RJs, RKs, RLs, RRt, Nat.reduceLT, Nat.reduceEqDiff, Nat.reduceAdd, Nat.reduceSub, RXa, RXb, RXc, lv_none, Nat.zero_mul, List.take_zero, getS, tn8, tn9, tn10, tn11, s_arr, s_arrS, Nat.zero_add, Nat.mul_one, bounds_eq, bnd_some, bnd_none, bndC_P, eq_self, gr_pairF, snap_lv, bsl_pair, c_pair, RSl, RSr, RSm, RSx, RSp, acc, accZ, errA, *])
      | (refine bodyA (tabX_cons (pgE_ok headS_ok) (tabX_cons (pgE_ok sizedS_ok) (tabX_cons (spE_ok entryS_ok) (tabX_cons (pgE_ok textS_ok) (tabX_nil _))))) (n := 100000) F46_code ?_
         simp (disch := first | decide | omega | assumption | exact isS_of (by assumption) | exact ixok_of (by assumption) (by omega) | exact slOk_of (by assumption) | exact bufOk_of (by assumption) (by omega) | exact ixok_ofR (by assumption) (by omega) | exact slOk_ofR (by assumption) | exact lenOk_of (by assumption) (by omega) | exact ixok_of8 (by assumption) (by omega) | exact ixok_ofW (by assumption) (by omega) | exact slOk_ofW (by assumption) | fail) only [F46, RAs, RBs, RCs, RDs, REs, RFs, RGs, RHs, RIs, RJs, RKs, RLs, RRt, Nat.reduceLT, Nat.reduceEqDiff, Nat.reduceAdd, Nat.reduceSub, RXa, RXb, RXc, lv_none, Nat.zero_mul, List.take_zero, getS, tn8, tn9, tn10, tn11, s_arr, s_arrS, Nat.zero_add, Nat.mul_one, bounds_eq, bnd_some, bnd_none, bndC_P, eq_self, gr_pairF, snap_lv, bsl_pair, c_pair, RSl, RSr, RSm, RSx, RSp, e_loop, acc, accZ, errA, *]
         refine (fin_skip _ _ _ _ _).trans ?_
         refine listG_loop _ _ _ _ (by first | omega | assumption) (by first | omega | assumption) _ _ _ _ _ _ _ _ _ _ h (by omega) ?_ ?_ ?_ ?_ ?_
         all_goals simp (disch := first | decide | omega | assumption | exact isS_of (by assumption) | exact ixok_of (by assumption) (by omega) | exact slOk_of (by assumption) | exact bufOk_of (by assumption) (by omega) | exact ixok_ofR (by assumption) (by omega) | exact slOk_ofR (by assumption) | exact lenOk_of (by assumption) (by omega) | exact ixok_of8 (by assumption) (by omega) | exact ixok_ofW (by assumption) (by omega) | exact slOk_ofW (by assumption) | fail) only [RAs, RBs, RCs, RDs, REs, RFs, RGs, RHs, RIs, RJs, RKs, RLs, RRt, Nat.reduceLT, Nat.reduceEqDiff, Nat.reduceAdd, Nat.reduceSub, RXa, RXb, RXc, lv_none, Nat.zero_mul, List.take_zero, getS, tn8, tn9, tn10, tn11, s_arr, s_arrS, Nat.zero_add, Nat.mul_one, bounds_eq, bnd_some, bnd_none, bndC_P, eq_self, gr_pairF, snap_lv, bsl_pair, c_pair, RSl, RSr, RSm, RSx, RSp, *])

end Den
