/- Contracts of the words of a memory: what an access does. -/
import Derived.Test.YtajdklfckcgifaaGreatCodeT
import Derived.Test.YtajdklfckcgifaaGreatDenG5
set_option maxRecDepth 100000
set_option linter.unusedSimpArgs false
set_option linter.unusedVariables false
namespace Den
open Go Go.Proofs

theorem bodyA {call : CallT} (hcall : CallsOk Tryz.prog call) {n : Nat} {f : FuncId} {F : AFn} (hF : cfgA.code f = some F) {args : List AV} {O : Mo} {S : Ms} {r : AV} {O' : Mo} {S' : Ms}
    (h : fin false F (exec cfgA call n F.body (enter F args O S)) = some (r, O', S')) : CallOk Tryz.prog f args O S r O' S' :=
  body cfgA_ok hcall (n := n) hF (by show fin false F _ = _; exact h)
def noCall : CallT := fun _ _ _ _ => none
theorem noCall_ok : CallsOk Tryz.prog noCall := fun _ _ _ _ _ _ _ h => by cases h
/-- One function that is called. -/
def oneC (f : FuncId) (sp : Sp) : CallT := fun g args O S => bif Nat.beq g f then spC (sp args O) S else none
theorem oneC_ok {f : FuncId} {sp : Sp} (h : SpOk Tryz.prog f sp) : CallsOk Tryz.prog (oneC f sp) := fun g args O S r O' S' hc => by
  unfold oneC at hc
  cases hb : Nat.beq g f with
  | true =>
    rw [hb] at hc
    cases hs : sp args O with
    | none => rw [hs] at hc; cases hc
    | some p =>
      obtain ⟨r1, O1⟩ := p
      rw [hs] at hc
      cases hc
      rw [Nat.eq_of_beq_eq_true hb]
      exact h args O r1 O1 hs S
  | false => rw [hb] at hc; cases hc
theorem oneC_eq (f : FuncId) (sp : Sp) (args : List AV) (O : Mo) (S : Ms) : oneC f sp f args O S = spC (sp args O) S := by
  unfold oneC; rw [Nat.beq_refl]; rfl

/-! Mem.zero -/
def zeroS : Sp := fun args O =>
  match args with
  | [.ref 0 k off] => match memO O k off with
    | some (_, ws) => some (.bool (decide (ws.length = 0)), O)
    | none => none
  | [.nilp] => some (.bool true, O)
  | _ => none
theorem zeroS_eq {O : Mo} {k off k2 : Nat} {cs ws : List AV} (H : MemO O k off k2 cs ws) : zeroS [.ref 0 k off] O = some (.bool (decide (ws.length = 0)), O) := by
  simp only [zeroS, H.memO]
theorem zeroS_ok : SpOk Tryz.prog 58 zeroS := by
  intro args O r O' h S
  unfold zeroS at h
  split at h
  · split at h
    · rename_i k2 ws hm
      simp only [Option.some.injEq, Prod.mk.injEq] at h
      obtain ⟨rfl, rfl⟩ := h
      obtain ⟨cs, H⟩ := memO_at hm
      refine bodyA noCall_ok (n := 0) F58_code ?_
      have h1 := H.obj; have h2 := H.cell
      simp (disch := first | decide | omega | assumption) only [F58, RAs, RBs, RCs, RDs, REs, RFs, RGs, RHs, RIs, RJs, RKs, RLs, if_true, if_false, dec_T, dec_F, Bool.not_true, Bool.not_false, Option.map_some, ite_true, Bool.and_true, List.map_cons, List.map_nil, List.length_cons, List.length_nil, List.nil_append, List.cons_append, Nat.zero_add, Nat.add_zero, Nat.mul_one, List.set_cons_zero, List.set_cons_succ, Int.toNat_natCast, List.drop_zero, List.drop_nil, List.drop_succ_cons, List.getElem?_drop, List.append_nil, List.length_set, decide_true, Bool.and_self, Bool.true_and, List.take_succ_cons, List.take_zero, Nat.reduceLT, Nat.reduceEqDiff, Nat.reduceAdd, Nat.reduceSub, gm_0, h1, h2]
      simp
    · cases h
  · simp only [Option.some.injEq, Prod.mk.injEq] at h
    obtain ⟨rfl, rfl⟩ := h
    refine bodyA noCall_ok (n := 0) F58_code ?_
    simp (disch := first | decide | omega | assumption) only [F58, RAs, RBs, RCs, RDs, REs, RFs, RGs, RHs, RIs, RJs, RKs, RLs, if_true, if_false, dec_T, dec_F, Bool.not_true, Bool.not_false, Option.map_some, ite_true, Bool.and_true, List.map_cons, List.map_nil, List.length_cons, List.length_nil, List.nil_append, List.cons_append, Nat.zero_add, Nat.add_zero, Nat.mul_one, List.set_cons_zero, List.set_cons_succ, Int.toNat_natCast, List.drop_zero, List.drop_nil, List.drop_succ_cons, List.getElem?_drop, List.append_nil, List.length_set, decide_true, Bool.and_self, Bool.true_and, List.take_succ_cons, List.take_zero, Nat.reduceLT, Nat.reduceEqDiff, Nat.reduceAdd, Nat.reduceSub]
  · cases h

/-! Mem.Do -/
def accZ : AV := .agg [.int .i64 0, .int .i64 0, .int .u64 0, .int .u64 0]
def acc (kd w b a : Int) : AV := .agg [.int .i64 kd, .int .i64 w, .int .u64 b, .int .u64 a]
def errA (e : Int) : AV := .tup [accZ, .int .i64 e]
/-- What an access of a kind leaves of a word. -/
def after (kd x b a : Int) : Int := if kd = 2 ∨ kd = 4 ∨ (kd = 3 ∧ x = b) then a else x
def doS : Sp := fun args O =>
  match args with
  | [.ref 0 k off, .agg [.int .i64 kd, .int .i64 w, .int .u64 b, .int .u64 a]] => match memO O k off with
    | some (k2, ws) =>
      if ws.length = 0 then some (errA 1, O)
      else if kd < 1 ∨ 4 < kd then some (errA 2, O)
      else if w < 0 ∨ ws.length ≤ w then some (errA 3, O)
      else match ws[w.toNat]? with
        | some (.int .u64 x) =>
          if kd = 2 ∨ kd = 4 ∨ (kd = 3 ∧ x = b) then some (.tup [acc kd w x a, .int .i64 0], O.set k2 (.buf 1 (ws.set w.toNat (.int .u64 a))))
          else some (.tup [acc kd w x x, .int .i64 0], O)
        | _ => none
    | none => none
  | _ => none
theorem doS_run (call : CallT) {O : Mo} {S : Ms} {k off k2 : Nat} {cs ws : List AV} (H : MemO O k off k2 cs ws) {kd w b a : Int}
    (hcall : ∀ F, call 58 [.ref 0 k off] O (S ++ [F]) = some (.bool (decide (ws.length = 0)), O, S ++ [F])) {r : AV} {O' : Mo}
    (h : doS [.ref 0 k off, acc kd w b a] O = some (r, O')) :
    fin false F103 (exec cfgA call 0 F103.body (enter F103 [.ref 0 k off, acc kd w b a] O S)) = some (r, O', S) := by
  have h1 := H.obj; have h2 := H.cell; have h3 := H.buf
  simp only [doS, acc, H.memO] at h
  unfold acc
  split at h
  · rename_i c0
    cases h
    simp (disch := first | decide | omega | assumption) only [F103, RAs, RBs, RCs, RDs, REs, RFs, RGs, RHs, RIs, RJs, RKs, RLs, if_true, if_false, dec_T, dec_F, Bool.not_true, Bool.not_false, Option.map_some, ite_true, Bool.and_true, List.map_cons, List.map_nil, List.length_cons, List.length_nil, List.nil_append, List.cons_append, Nat.zero_add, Nat.add_zero, Nat.mul_one, List.set_cons_zero, List.set_cons_succ, Int.toNat_natCast, List.drop_zero, List.drop_nil, List.drop_succ_cons, List.getElem?_drop, List.append_nil, List.length_set, decide_true, Bool.and_self, Bool.true_and, List.take_succ_cons, List.take_zero, Nat.reduceLT, Nat.reduceEqDiff, Nat.reduceAdd, Nat.reduceSub, hcall, errA, accZ]
  split at h
  · rename_i c0 c1
    cases h
    rcases c1 with c1 | c1
    · simp (disch := first | decide | omega | assumption) only [F103, RAs, RBs, RCs, RDs, REs, RFs, RGs, RHs, RIs, RJs, RKs, RLs, if_true, if_false, dec_T, dec_F, Bool.not_true, Bool.not_false, Option.map_some, ite_true, Bool.and_true, List.map_cons, List.map_nil, List.length_cons, List.length_nil, List.nil_append, List.cons_append, Nat.zero_add, Nat.add_zero, Nat.mul_one, List.set_cons_zero, List.set_cons_succ, Int.toNat_natCast, List.drop_zero, List.drop_nil, List.drop_succ_cons, List.getElem?_drop, List.append_nil, List.length_set, decide_true, Bool.and_self, Bool.true_and, List.take_succ_cons, List.take_zero, Nat.reduceLT, Nat.reduceEqDiff, Nat.reduceAdd, Nat.reduceSub, hcall, errA, accZ]
    · simp (disch := first | decide | omega | assumption) only [F103, RAs, RBs, RCs, RDs, REs, RFs, RGs, RHs, RIs, RJs, RKs, RLs, if_true, if_false, dec_T, dec_F, Bool.not_true, Bool.not_false, Option.map_some, ite_true, Bool.and_true, List.map_cons, List.map_nil, List.length_cons, List.length_nil, List.nil_append, List.cons_append, Nat.zero_add, Nat.add_zero, Nat.mul_one, List.set_cons_zero, List.set_cons_succ, Int.toNat_natCast, List.drop_zero, List.drop_nil, List.drop_succ_cons, List.getElem?_drop, List.append_nil, List.length_set, decide_true, Bool.and_self, Bool.true_and, List.take_succ_cons, List.take_zero, Nat.reduceLT, Nat.reduceEqDiff, Nat.reduceAdd, Nat.reduceSub, hcall, errA, accZ]
  split at h
  · rename_i c0 c1 c2
    cases h
    rcases c2 with c2 | c2
    · simp (disch := first | decide | omega | assumption) only [F103, RAs, RBs, RCs, RDs, REs, RFs, RGs, RHs, RIs, RJs, RKs, RLs, if_true, if_false, dec_T, dec_F, Bool.not_true, Bool.not_false, Option.map_some, ite_true, Bool.and_true, List.map_cons, List.map_nil, List.length_cons, List.length_nil, List.nil_append, List.cons_append, Nat.zero_add, Nat.add_zero, Nat.mul_one, List.set_cons_zero, List.set_cons_succ, Int.toNat_natCast, List.drop_zero, List.drop_nil, List.drop_succ_cons, List.getElem?_drop, List.append_nil, List.length_set, decide_true, Bool.and_self, Bool.true_and, List.take_succ_cons, List.take_zero, Nat.reduceLT, Nat.reduceEqDiff, Nat.reduceAdd, Nat.reduceSub, hcall, errA, accZ]
    · simp (disch := first | decide | omega | assumption) only [F103, RAs, RBs, RCs, RDs, REs, RFs, RGs, RHs, RIs, RJs, RKs, RLs, if_true, if_false, dec_T, dec_F, Bool.not_true, Bool.not_false, Option.map_some, ite_true, Bool.and_true, List.map_cons, List.map_nil, List.length_cons, List.length_nil, List.nil_append, List.cons_append, Nat.zero_add, Nat.add_zero, Nat.mul_one, List.set_cons_zero, List.set_cons_succ, Int.toNat_natCast, List.drop_zero, List.drop_nil, List.drop_succ_cons, List.getElem?_drop, List.append_nil, List.length_set, decide_true, Bool.and_self, Bool.true_and, List.take_succ_cons, List.take_zero, Nat.reduceLT, Nat.reduceEqDiff, Nat.reduceAdd, Nat.reduceSub, hcall, errA, accZ, gm_0, h1, h2]
  split at h
  · rename_i c0 c1 c2 x hx
    have hw : w.toNat < ws.length := by omega
    split at h
    · rename_i c3
      cases h
      have g1 : (O.set k2 (.buf 1 (ws.set w.toNat (.int .u64 a))))[k]? = some (.arr cs) := set_ne h1 H.ne.symm
      have g3 : (O.set k2 (.buf 1 (ws.set w.toNat (.int .u64 a))))[k2]? = some (.buf 1 (ws.set w.toNat (.int .u64 a))) := set_self h3
      have g4 : (ws.set w.toNat (.int .u64 a))[w.toNat]? = some (.int .u64 a) := by simp [hw]
      rcases c3 with rfl | rfl | ⟨rfl, rfl⟩
      · simp (disch := first | decide | omega | assumption) only [F103, RAs, RBs, RCs, RDs, REs, RFs, RGs, RHs, RIs, RJs, RKs, RLs, if_true, if_false, dec_T, dec_F, Bool.not_true, Bool.not_false, Option.map_some, ite_true, Bool.and_true, List.map_cons, List.map_nil, List.length_cons, List.length_nil, List.nil_append, List.cons_append, Nat.zero_add, Nat.add_zero, Nat.mul_one, List.set_cons_zero, List.set_cons_succ, Int.toNat_natCast, List.drop_zero, List.drop_nil, List.drop_succ_cons, List.getElem?_drop, List.append_nil, List.length_set, decide_true, Bool.and_self, Bool.true_and, List.take_succ_cons, List.take_zero, Nat.reduceLT, Nat.reduceEqDiff, Nat.reduceAdd, Nat.reduceSub, hcall, gm_0, h1, h2, h3, hx, m_stOB, stOB_int, m_aldBS, m_take1, g1, g3, g4]
      · simp (disch := first | decide | omega | assumption) only [F103, RAs, RBs, RCs, RDs, REs, RFs, RGs, RHs, RIs, RJs, RKs, RLs, if_true, if_false, dec_T, dec_F, Bool.not_true, Bool.not_false, Option.map_some, ite_true, Bool.and_true, List.map_cons, List.map_nil, List.length_cons, List.length_nil, List.nil_append, List.cons_append, Nat.zero_add, Nat.add_zero, Nat.mul_one, List.set_cons_zero, List.set_cons_succ, Int.toNat_natCast, List.drop_zero, List.drop_nil, List.drop_succ_cons, List.getElem?_drop, List.append_nil, List.length_set, decide_true, Bool.and_self, Bool.true_and, List.take_succ_cons, List.take_zero, Nat.reduceLT, Nat.reduceEqDiff, Nat.reduceAdd, Nat.reduceSub, hcall, gm_0, h1, h2, h3, hx, m_stOB, stOB_int, m_aldBS, m_take1, g1, g3, g4]
      · simp (disch := first | decide | omega | assumption) only [F103, RAs, RBs, RCs, RDs, REs, RFs, RGs, RHs, RIs, RJs, RKs, RLs, if_true, if_false, dec_T, dec_F, Bool.not_true, Bool.not_false, Option.map_some, ite_true, Bool.and_true, List.map_cons, List.map_nil, List.length_cons, List.length_nil, List.nil_append, List.cons_append, Nat.zero_add, Nat.add_zero, Nat.mul_one, List.set_cons_zero, List.set_cons_succ, Int.toNat_natCast, List.drop_zero, List.drop_nil, List.drop_succ_cons, List.getElem?_drop, List.append_nil, List.length_set, decide_true, Bool.and_self, Bool.true_and, List.take_succ_cons, List.take_zero, Nat.reduceLT, Nat.reduceEqDiff, Nat.reduceAdd, Nat.reduceSub, hcall, gm_0, h1, h2, h3, hx, m_stOB, stOB_int, m_aldBS, m_take1, g1, g3, g4]
    · rename_i c3
      cases h
      by_cases c4 : kd = 3
      · have c5 : x ≠ b := by omega
        subst c4
        simp (disch := first | decide | omega | assumption) only [F103, RAs, RBs, RCs, RDs, REs, RFs, RGs, RHs, RIs, RJs, RKs, RLs, if_true, if_false, dec_T, dec_F, Bool.not_true, Bool.not_false, Option.map_some, ite_true, Bool.and_true, List.map_cons, List.map_nil, List.length_cons, List.length_nil, List.nil_append, List.cons_append, Nat.zero_add, Nat.add_zero, Nat.mul_one, List.set_cons_zero, List.set_cons_succ, Int.toNat_natCast, List.drop_zero, List.drop_nil, List.drop_succ_cons, List.getElem?_drop, List.append_nil, List.length_set, decide_true, Bool.and_self, Bool.true_and, List.take_succ_cons, List.take_zero, Nat.reduceLT, Nat.reduceEqDiff, Nat.reduceAdd, Nat.reduceSub, hcall, gm_0, h1, h2, h3, hx]
      · simp (disch := first | decide | omega | assumption) only [F103, RAs, RBs, RCs, RDs, REs, RFs, RGs, RHs, RIs, RJs, RKs, RLs, if_true, if_false, dec_T, dec_F, Bool.not_true, Bool.not_false, Option.map_some, ite_true, Bool.and_true, List.map_cons, List.map_nil, List.length_cons, List.length_nil, List.nil_append, List.cons_append, Nat.zero_add, Nat.add_zero, Nat.mul_one, List.set_cons_zero, List.set_cons_succ, Int.toNat_natCast, List.drop_zero, List.drop_nil, List.drop_succ_cons, List.getElem?_drop, List.append_nil, List.length_set, decide_true, Bool.and_self, Bool.true_and, List.take_succ_cons, List.take_zero, Nat.reduceLT, Nat.reduceEqDiff, Nat.reduceAdd, Nat.reduceSub, hcall, gm_0, h1, h2, h3, hx]
  · cases h
theorem doS_ok : SpOk Tryz.prog 103 doS := by
  intro args O r O' h S
  have h0 := h
  unfold doS at h
  split at h
  · rename_i k off kd w b a
    split at h
    · rename_i k2 ws hm
      obtain ⟨cs, H⟩ := memO_at hm
      refine bodyA (oneC_ok zeroS_ok) (n := 0) F103_code (doS_run _ H (fun F => ?_) h0)
      rw [oneC_eq, zeroS_eq H]; rfl
    · cases h
  · cases h
end Den
