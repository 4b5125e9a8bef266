/- Functions of the program, as den reads them. -/
import Derived.Test.YtajcniofkpifaaaA
import Derived.Test.YtajcniofkpifaaaKnown23
import Derived.Test.YtajcniofkpifaaaCodeW
import Derived.Test.YtajcniofkpifaaaDenGA
import Derived.Test.YtajcniofkpifaaaDenArgs
namespace Den
open Go Go.Proofs
set_option maxRecDepth 1000000

/-- ticketline/ticketlinelaw23.CheckWords -/
noncomputable def F3 : AFn := ⟨29, [.tmp 2], (.seq
 (.ops 0 [⟨some 2, none, .mv (.c (.bool false)), []⟩])
 (.seq
 (.ops 1 [⟨some 4, none, .call 5 [], []⟩,
 ⟨some 3, none, .mv (.t 4), []⟩])
 (.seq
 (.seq
 (.ops 2 [⟨some 5, none, .mv (.t 0), []⟩,
 ⟨some 6, none, .bin .lss (.t 5) (.c (.int .i64 0)), []⟩,
 ⟨some 7, none, .mv (.t 6), []⟩,
 ⟨some 8, some (7, false), .mv (.t 0), []⟩,
 ⟨some 9, some (7, false), .mv (.t 3), []⟩,
 ⟨some 10, some (7, false), .len .slice (.t 9), []⟩,
 ⟨some 11, some (7, false), .bin .geq (.t 8) (.t 10), []⟩,
 ⟨some 12, none, .pick (.t 7) (.c (.bool true)) (.t 11), []⟩])
 (.cond (.t 12)
 (.seq
 (.ops 3 [⟨some 13, none, .mv (.t 0), []⟩,
 ⟨some 14, none, .call 6 [.t 13], []⟩,
 ⟨some 15, none, .bin .eql (.t 14) (.c (.str [])), []⟩,
 ⟨some 16, none, .mv (.t 15), []⟩,
 ⟨some 17, some (16, true), .call 7 [], []⟩,
 ⟨some 18, none, .pick (.t 16) (.t 17) (.c (.bool false)), []⟩,
 ⟨some 2, none, .mv (.t 18), []⟩])
 .ret)
 .skip))
 (.seq
 (.ops 4 [⟨some 19, none, .mv (.t 0), []⟩,
 ⟨some 21, none, .mv (.t 3), []⟩,
 ⟨some 22, none, .mv (.t 0), []⟩,
 ⟨some 23, none, .ixa none 1 (.t 21) (.t 22), []⟩,
 ⟨some 24, none, .ld 1 false (.t 23), []⟩,
 ⟨some 20, none, .call 6 [.t 19], [(24, .ld 1 false (.t 23))]⟩,
 ⟨some 25, none, .bin .eql (.t 20) (.t 24), []⟩,
 ⟨some 26, none, .mv (.t 25), []⟩,
 ⟨some 27, some (26, true), .call 7 [], []⟩,
 ⟨some 28, none, .pick (.t 26) (.t 27) (.c (.bool false)), []⟩,
 ⟨some 2, none, .mv (.t 28), []⟩])
 .ret))))⟩
theorem F3_code : cfgA.code 3 = some F3 := by kernel_rfl

/-- ticketline/ticketlineref23.Words -/
noncomputable def F5 : AFn := ⟨2, [.tmp 0], (.seq
 (.ops 0 [⟨some 0, none, .mv (.c (.nils)), []⟩])
 (.seq
 (.ops 1 [⟨some 1, none, .bslice [.str []] 1 10 [(0, (.c (.str [102, 105, 110, 101]))), (1, (.c (.str [102, 111, 114, 109]))), (2, (.c (.str [108, 101, 118, 101, 108]))), (3, (.c (.str [102, 101, 110, 99, 101]))), (4, (.c (.str [107, 101, 121, 115]))), (5, (.c (.str [114, 105, 103, 104, 116]))), (6, (.c (.str [108, 111, 97, 100]))), (7, (.c (.str [116, 119, 105, 99, 101]))), (8, (.c (.str [108, 111, 115, 116]))), (9, (.c (.str [99, 104, 105, 108, 100])))] false false, []⟩,
 ⟨some 0, none, .mv (.t 1), []⟩])
 .ret))⟩
theorem F5_code : cfgA.code 5 = some F5 := by kernel_rfl

end Den

/- CheckNil. -/
set_option maxRecDepth 1000000
set_option maxHeartbeats 4000000
set_option linter.unusedSimpArgs false
set_option linter.unusedVariables false
namespace Den
open Go Go.Proofs

/-- The program, the examples taken as they come out. -/
def knP (args : List AV) (O : Mo) (S : Ms) : Ans := match args with
  | [] => some (.bool true, O, S)
  | _ => none
theorem knP_ok {args O S r O' S'} (h : knP args O S = some (r, O', S')) : CallOk Try.prog 7 args O S r O' S' := by
  unfold knP at h
  split at h
  · cases h; exact known_ofS known23_run O S
  · cases h
noncomputable def primN (f : FuncId) : Option U.Prm := bif Nat.beq f 7 then some knP else primS f
theorem primN_ok : ∀ f p, primN f = some p → ∀ args O S r O' S', p args O S = some (r, O', S') → CallOk Try.prog f args O S r O' S' := by
  intro f p h args O S r O' S' hp
  unfold primN at h
  cases h1 : Nat.beq f 7 with
  | true =>
    rw [h1] at h
    simp only [cond_true, Option.some.injEq] at h; subst h
    rw [Nat.eq_of_beq_eq_true h1]; exact knP_ok hp
  | false => rw [h1] at h; exact primS_ok f p h args O S r O' S' hp
noncomputable def cfgN : Cfg := { cfgA with prim := primN }
theorem cfgN_ok : CfgOk Try.prog cfgN where
  mixed := cfgA_ok.mixed
  code := cfgA_ok.code
  prim f p h := primN_ok f p h
  meth := cfgA_ok.meth
theorem noFpN_ok : FpOk cfgN noFp := fun _ _ h => by cases h
abbrev RunN (f : FuncId) (args : List AV) : Prop := fden cfgN noFp 1000000 f args [] [] isT = true
theorem RunN.ok {f : FuncId} {args : List AV} (h : RunN f args) : ∃ O' S', CallOk Try.prog f args [] [] (.bool true) O' S' := by
  obtain ⟨r, O', S', h, hk⟩ := fden_ok cfgN_ok noFpN_ok h
  obtain rfl := isT_ok hk
  exact ⟨O', S', h⟩
theorem cn_t : fden cfgN noFp 1000000 4 [.bool true] [] [] isT = true := by kernel_rfl
theorem cn_f : fden cfgN noFp 1000000 4 [.bool false] [] [] isT = true := by kernel_rfl
/-- The law. -/
theorem checkNil_law (a0 : List AV) (s0 : Shp .bool a0) :
    ∃ O' S', CallOk Try.prog 4 [parV .bool a0] [] [] (.bool true) O' S' := by
  obtain ⟨b, rfl⟩ := s0
  cases b with
  | true => exact RunN.ok cn_t
  | false => exact RunN.ok cn_f
end Den

/- CheckWords, closed runs. -/
set_option maxRecDepth 1000000
set_option maxHeartbeats 4000000
set_option linter.unusedSimpArgs false
set_option linter.unusedVariables false
namespace Den
open Go Go.Proofs

theorem cw_0 : fden cfgN noFp 1000000 3 [.int .i64 0] [] [] isT = true := by kernel_rfl
theorem cw_1 : fden cfgN noFp 1000000 3 [.int .i64 1] [] [] isT = true := by kernel_rfl
theorem cw_2 : fden cfgN noFp 1000000 3 [.int .i64 2] [] [] isT = true := by kernel_rfl
theorem cw_3 : fden cfgN noFp 1000000 3 [.int .i64 3] [] [] isT = true := by kernel_rfl
theorem cw_4 : fden cfgN noFp 1000000 3 [.int .i64 4] [] [] isT = true := by kernel_rfl
theorem cw_5 : fden cfgN noFp 1000000 3 [.int .i64 5] [] [] isT = true := by kernel_rfl
theorem cw_6 : fden cfgN noFp 1000000 3 [.int .i64 6] [] [] isT = true := by kernel_rfl
theorem cw_7 : fden cfgN noFp 1000000 3 [.int .i64 7] [] [] isT = true := by kernel_rfl
theorem cw_8 : fden cfgN noFp 1000000 3 [.int .i64 8] [] [] isT = true := by kernel_rfl
theorem cw_9 : fden cfgN noFp 1000000 3 [.int .i64 9] [] [] isT = true := by kernel_rfl

end Den

/- CheckWords: other numbers; the law. -/
set_option maxRecDepth 1000000
set_option maxHeartbeats 4000000
set_option linter.unusedSimpArgs false
set_option linter.unusedVariables false
namespace Den
open Go Go.Proofs

section
variable [GTab]
theorem tabC_nil' (P : Program) : CallsOk P (tabC []) := fun _ _ _ _ _ _ _ h => by cases h
theorem tabC_cons' {P : Program} {f : FuncId} {sp : Sp} {l : List (FuncId × Sp)} (h : SpOk P f sp) (hl : CallsOk P (tabC l)) : CallsOk P (tabC ((f, sp) :: l)) := fun g args O S r O' S' hc => by
  simp only [tabC] at hc
  cases hb : Nat.beq g f with
  | true =>
    rw [hb] at hc
    cases hs : sp args O with
    | none => rw [hs] at hc; cases hc
    | some p =>
      obtain ⟨r1, O1⟩ := p
      rw [hs] at hc
      cases hc
      rw [Nat.eq_of_beq_eq_true hb]
      exact h args O r1 O1 hs S
  | false => rw [hb] at hc; exact hl g args O S r O' S' hc
end
theorem bsl_ten (a b c d e f g h i j : List UInt8) (O : Mo) (S : Ms) : bslC 1 10 false false (some [.str a, .str b, .str c, .str d, .str e, .str f, .str g, .str h, .str i, .str j]) O S = some (.isl [.str a, .str b, .str c, .str d, .str e, .str f, .str g, .str h, .str i, .str j] 10, O, S) := by
  simp [bslC, AV.low]
theorem snap_isl' (S : Ms) (c : List AV) (n : Nat) : snap S (.isl c n) = some (.isl c n) := rfl
theorem snap2_isl' (S : Ms) (c : List AV) (n : Nat) : snap2 S (.isl c n) = some (.isl c n) := rfl
theorem len_isl' (O : Mo) (S : Ms) (c : List AV) (n : Nat) : lenA O S .slice (.isl c n) = some n := rfl
theorem rep10 (v : AV) : repCells [v] 10 = [v, v, v, v, v, v, v, v, v, v] := rfl
theorem enter0' (nt : Nat) (rs : List RV) (bd : AC) (O : Mo) (S : Ms) : enter ⟨nt, rs, bd⟩ [] O S = ⟨leOf nt env0, O, S ++ [[]]⟩ := by
  rw [enter_eq _ _ _ _ (by simp)]; rfl
theorem eqSS : bin .eql (.str []) (.str []) = some (.bool true) := rfl
/-- check.Word -/
def wordOutS : Sp := fun args O =>
  match args with
  | [.int .i64 n] => if n < 0 then some (.str [], O) else if 10 ≤ n then some (.str [], O) else none
  | _ => none
theorem wordOutS_ok : SpOk Try.prog 6 wordOutS := by
  intro args O r O' h S
  unfold wordOutS at h
  repeat' (split at h)
  all_goals first | (cases h; done) | skip
  all_goals
    simp only [Option.some.injEq, Prod.mk.injEq] at h
    obtain ⟨rfl, rfl⟩ := h
    refine bodyA (tabC_nil' _) (n := 0) F6_code ?_
    try simp only [acc, accZ, errA] at *
    simp (disch := first | decide | omega | assumption) only [F6, RAs, RBs, RCs, RDs, REs, RFs, RGs, RHs, RIs, RJs, RKs, RLs, RRt, Nat.reduceLT, Nat.reduceEqDiff, Nat.reduceAdd, Nat.reduceSub, RXa, RXb, RXc, bsl_ten, snap_isl', snap2_isl', len_isl', rep10, enter0', eqSS, List.set_cons_zero, List.set_cons_succ, acc, accZ, errA, *]

def wl : List AV := [.str [102, 105, 110, 101], .str [102, 111, 114, 109], .str [108, 101, 118, 101, 108], .str [102, 101, 110, 99, 101], .str [107, 101, 121, 115], .str [114, 105, 103, 104, 116], .str [108, 111, 97, 100], .str [116, 119, 105, 99, 101], .str [108, 111, 115, 116], .str [99, 104, 105, 108, 100]]
/-- ticketlineref23.Words -/
def words23S : Sp := fun args O =>
  match args with
  | [] => some (.isl [.str [102, 105, 110, 101], .str [102, 111, 114, 109], .str [108, 101, 118, 101, 108], .str [102, 101, 110, 99, 101], .str [107, 101, 121, 115], .str [114, 105, 103, 104, 116], .str [108, 111, 97, 100], .str [116, 119, 105, 99, 101], .str [108, 111, 115, 116], .str [99, 104, 105, 108, 100]] 10, O)
  | _ => none
theorem words23S_ok : SpOk Try.prog 5 words23S := by
  intro args O r O' h S
  unfold words23S at h
  repeat' (split at h)
  all_goals first | (cases h; done) | skip
  all_goals
    simp only [Option.some.injEq, Prod.mk.injEq] at h
    obtain ⟨rfl, rfl⟩ := h
    refine bodyA (tabC_nil' _) (n := 0) F5_code ?_
    try simp only [acc, accZ, errA] at *
    simp (disch := first | decide | omega | assumption) only [F5, RAs, RBs, RCs, RDs, REs, RFs, RGs, RHs, RIs, RJs, RKs, RLs, RRt, Nat.reduceLT, Nat.reduceEqDiff, Nat.reduceAdd, Nat.reduceSub, RXa, RXb, RXc, bsl_ten, snap_isl', snap2_isl', len_isl', rep10, enter0', eqSS, List.set_cons_zero, List.set_cons_succ, acc, accZ, errA, *]

def known23S : Sp := fun args O =>
  match args with
  | [] => some (.bool true, O)
  | _ => none
theorem known23S_ok : SpOk Try.prog 7 known23S := fun args O r O' h S => by
  unfold known23S at h
  split at h
  · cases h; exact known_ofS known23_run O S
  · cases h
/-- ticketlinelaw23.CheckWords -/
def cwOutS : Sp := fun args O =>
  match args with
  | [.int .i64 n] =>
    if n < 0 then
      (match words23S [] O with
      | some (.isl w 10, O1) => (
      (match wordOutS [.int .i64 n] O1 with
      | some (.str [], O2) => (
      (match known23S [] O2 with
      | some (.bool b, O3) => (
      some (.bool b, O3))
      | _ => none))
      | _ => none))
      | _ => none)
    else
    if 10 ≤ n then
      (match words23S [] O with
      | some (.isl w 10, O4) => (
      (match wordOutS [.int .i64 n] O4 with
      | some (.str [], O5) => (
      (match known23S [] O5 with
      | some (.bool b, O6) => (
      some (.bool b, O6))
      | _ => none))
      | _ => none))
      | _ => none)
    else none
  | _ => none
theorem cwOutS_ok : SpOk Try.prog 3 cwOutS := by
  intro args O r O' h S
  unfold cwOutS at h
  repeat' (split at h)
  all_goals first | (cases h; done) | skip
  all_goals
    simp only [Option.some.injEq, Prod.mk.injEq] at h
    obtain ⟨rfl, rfl⟩ := h
    refine bodyA (tabC_cons' words23S_ok (tabC_cons' wordOutS_ok (tabC_cons' known23S_ok (tabC_nil' _)))) (n := 0) F3_code ?_
    try simp only [acc, accZ, errA] at *
    simp (disch := first | decide | omega | assumption) only [F3, RAs, RBs, RCs, RDs, REs, RFs, RGs, RHs, RIs, RJs, RKs, RLs, RRt, Nat.reduceLT, Nat.reduceEqDiff, Nat.reduceAdd, Nat.reduceSub, RXa, RXb, RXc, bsl_ten, snap_isl', snap2_isl', len_isl', rep10, enter0', eqSS, List.set_cons_zero, List.set_cons_succ, acc, accZ, errA, *]

theorem cw_out {n : Int} (h : n < 0 ∨ 10 ≤ n) : ∃ O' S', CallOk Try.prog 3 [.int .i64 n] [] [] (.bool true) O' S' := by
  refine ⟨[], [], cwOutS_ok _ _ _ _ ?_ []⟩
  by_cases h1 : n < 0
  · simp only [cwOutS, if_pos h1, words23S, wordOutS, known23S]
  · have h2 : 10 ≤ n := by omega
    simp only [cwOutS, if_neg h1, if_pos h2, words23S, wordOutS, known23S]
/-- The law. -/
theorem checkWords_law (a0 : List AV) (s0 : Shp (.int .i64) a0) :
    ∃ O' S', CallOk Try.prog 3 [parV (.int .i64) a0] [] [] (.bool true) O' S' := by
  obtain ⟨n, rfl, _⟩ := s0
  show ∃ O' S', CallOk Try.prog 3 [.int .i64 n] [] [] (.bool true) O' S'
  by_cases h : n < 0 ∨ 10 ≤ n
  · exact cw_out h
  · have : n = 0 ∨ n = 1 ∨ n = 2 ∨ n = 3 ∨ n = 4 ∨ n = 5 ∨ n = 6 ∨ n = 7 ∨ n = 8 ∨ n = 9 := by omega
    rcases this with rfl | rfl | rfl | rfl | rfl | rfl | rfl | rfl | rfl | rfl
    · exact RunN.ok cw_0
    · exact RunN.ok cw_1
    · exact RunN.ok cw_2
    · exact RunN.ok cw_3
    · exact RunN.ok cw_4
    · exact RunN.ok cw_5
    · exact RunN.ok cw_6
    · exact RunN.ok cw_7
    · exact RunN.ok cw_8
    · exact RunN.ok cw_9
end Den
