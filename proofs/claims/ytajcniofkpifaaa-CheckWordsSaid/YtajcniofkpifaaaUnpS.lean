/- Contracts of the words of a memory: what a load gives. -/
import Derived.Test.YtajcniofkpifaaaCodeT
import Derived.Test.YtajcniofkpifaaaDenGA
namespace Den.U
open Go Go.Proofs
set_option maxRecDepth 100000
set_option linter.unusedSimpArgs false
def CallsOk (call : CallT) : Prop := Den.CallsOk Try.prog call
theorem bodyT {call : CallT} (hcall : CallsOk call) {n : Nat} {f : FuncId} {F : AFn} (hF : cfgA.code f = some F) {args : List AV} {O : Mo} {S : Ms} {r : AV} {O' : Mo} {S' : Ms}
    (h : fin false F (exec cfgA call n F.body (enter F args O S)) = some (r, O', S')) : CallOk Try.prog f args O S r O' S' :=
  body cfgA_ok hcall (n := n) hF (by show fin false F _ = _; exact h)

/-- A memory's words, as they lie. -/
structure MemAt (O : Mo) (B : Ms) (d k off d2 k2 : Nat) (ws : List AV) : Prop where
  cell : ∃ cs, gm O B d k = some (.arr cs) ∧ cs[off]? = some (.bref d2 k2 0 ws.length ws.length)
  buf : gm O B d2 k2 = some (.buf 1 ws)
theorem MemAt.push {O : Mo} {B : Ms} {d k off d2 k2 : Nat} {ws : List AV} (h : MemAt O B d k off d2 k2 ws) (F : List ABlk) : MemAt O (B ++ [F]) d k off d2 k2 ws := by
  obtain ⟨⟨cs, hg, hc⟩, hb⟩ := h
  exact ⟨⟨cs, gm_pushL hg, hc⟩, gm_pushL hb⟩
def memR (O : Mo) (S : Ms) (d k off : Nat) : Option (Nat × Nat × List AV) :=
  match gm O S d k with
  | some (.arr cs) => match cs[off]? with
    | some (.bref d2 k2 0 len tot) => match gm O S d2 k2 with
      | some (.buf 1 ws) => if len = tot ∧ ws.length = tot then some (d2, k2, ws) else none
      | _ => none
    | _ => none
  | _ => none
theorem memR_at {O : Mo} {S : Ms} {d k off d2 k2 : Nat} {ws : List AV} (h : memR O S d k off = some (d2, k2, ws)) : MemAt O S d k off d2 k2 ws := by
  unfold memR at h
  split at h
  · rename_i cs hg
    split at h
    · rename_i d2 k2 len tot hc
      split at h
      · rename_i ws hb
        split at h
        · rename_i hl
          simp only [Option.some.injEq, Prod.mk.injEq] at h
          obtain ⟨rfl, rfl, rfl⟩ := h
          obtain ⟨rfl, h2⟩ := hl
          subst h2
          exact ⟨⟨cs, hg, hc⟩, hb⟩
        · cases h
      · cases h
    · cases h
  · cases h
theorem MemAt.memR {O : Mo} {S : Ms} {d k off d2 k2 : Nat} {ws : List AV} (h : MemAt O S d k off d2 k2 ws) : memR O S d k off = some (d2, k2, ws) := by
  obtain ⟨⟨cs, hg, hc⟩, hb⟩ := h
  simp [Den.U.memR, hg, hc, hb]

/-! Mem.zero -/
def zeroP (args : List AV) (O : Mo) (S : Ms) : Ans :=
  match args with
  | [.ref d k off] => match memR O S d k off with
    | some (_, _, ws) => some (.bool (decide (ws.length = 0)), O, S)
    | none => none
  | _ => none
theorem run69 (cfg : Cfg) (call : CallT) {O : Mo} {B : Ms} {d k off d2 k2 : Nat} {ws : List AV} (h : MemAt O B d k off d2 k2 ws) :
    fin false F69 (exec cfg call 0 F69.body (enter F69 [.ref d k off] O B)) = some (.bool (decide (ws.length = 0)), O, B) := by
  obtain ⟨⟨cs, hg, hc⟩, hb⟩ := h
  have hg' := gm_pushL (F := []) hg
  simp (disch := first | decide | omega) only [F69, RAs, RBs, RCs, RDs, REs, RFs, RGs, RHs, RIs, RJs, RKs, RLs, if_true, if_false, dec_T, dec_F, Bool.not_true, Bool.not_false, Option.map_some, ite_true, Bool.and_true, List.map_cons, List.map_nil, List.length_cons, List.length_nil, List.nil_append, List.cons_append, Nat.zero_add, Nat.add_zero, Nat.mul_one, List.set_cons_zero, List.set_cons_succ, Int.toNat_natCast, List.drop_zero, List.drop_nil, List.drop_succ_cons, List.getElem?_drop, List.append_nil, List.length_set, decide_true, Bool.and_self, Bool.true_and, List.take_succ_cons, List.take_zero, Nat.reduceLT, Nat.reduceEqDiff, Nat.reduceAdd, Nat.reduceSub, hg', hc]
  simp
def noCall : CallT := fun _ _ _ _ => none
theorem noCall_ok : CallsOk noCall := fun _ _ _ _ _ _ _ h => by cases h
theorem zero_ok {args O S r O' S'} (h : zeroP args O S = some (r, O', S')) : CallOk Try.prog 69 args O S r O' S' := by
  unfold zeroP at h
  split at h
  · split at h
    · rename_i d2 k2 ws hm
      simp only [Option.some.injEq, Prod.mk.injEq] at h
      obtain ⟨rfl, rfl, rfl⟩ := h
      exact bodyT noCall_ok (n := 0) F69_code (run69 _ _ (memR_at hm))
    · cases h
  · cases h

/-! Mem.Do, for loads -/
def call1 : CallT := fun f args O S => if f = 69 then zeroP args O S else none
theorem call1_ok : CallsOk call1 := fun f args O S r O' S' h => by
  unfold call1 at h
  split at h
  · rename_i e; subst e; exact zero_ok h
  · cases h
def doP (args : List AV) (O : Mo) (S : Ms) : Ans :=
  match args with
  | [.ref d k off, .agg [.int .i64 1, .int .i64 i, .int .u64 _, .int .u64 _]] => match memR O S d k off with
    | some (_, _, ws) => if 0 ≤ i ∧ i < ws.length then match ws[i.toNat]? with
      | some (.int .u64 w) => some (.tup [.agg [.int .i64 1, .int .i64 i, .int .u64 w, .int .u64 w], .int .i64 0], O, S)
      | _ => none
      else none
    | none => none
  | _ => none
theorem run72_load (cfg : Cfg) (call : CallT) {O : Mo} {B : Ms} {d k off d2 k2 : Nat} {ws : List AV} (h : MemAt O B d k off d2 k2 ws)
    (hcall : ∀ F, call 69 [.ref d k off] O (B ++ [F]) = some (.bool (decide (ws.length = 0)), O, B ++ [F]))
    {i bf af w : Int} (h0 : 0 ≤ i) (h1 : i < ws.length) (hw : ws[i.toNat]? = some (.int .u64 w)) :
    fin false F72 (exec cfg call 0 F72.body (enter F72 [.ref d k off, .agg [.int .i64 1, .int .i64 i, .int .u64 bf, .int .u64 af]] O B)) = some (.tup [.agg [.int .i64 1, .int .i64 i, .int .u64 w, .int .u64 w], .int .i64 0], O, B) := by
  obtain ⟨⟨cs, hg, hc⟩, hb⟩ := h
  have hg' : ∀ F, gm O (B ++ [F]) d k = some (.arr cs) := fun F => gm_pushL hg
  have hb' : ∀ F, gm O (B ++ [F]) d2 k2 = some (.buf 1 ws) := fun F => gm_pushL hb
  simp (disch := first | decide | omega) only [F72, RAs, RBs, RCs, RDs, REs, RFs, RGs, RHs, RIs, RJs, RKs, RLs, if_true, if_false, dec_T, dec_F, Bool.not_true, Bool.not_false, Option.map_some, ite_true, Bool.and_true, List.map_cons, List.map_nil, List.length_cons, List.length_nil, List.nil_append, List.cons_append, Nat.zero_add, Nat.add_zero, Nat.mul_one, List.set_cons_zero, List.set_cons_succ, Int.toNat_natCast, List.drop_zero, List.drop_nil, List.drop_succ_cons, List.getElem?_drop, List.append_nil, List.length_set, decide_true, Bool.and_self, Bool.true_and, List.take_succ_cons, List.take_zero, Nat.reduceLT, Nat.reduceEqDiff, Nat.reduceAdd, Nat.reduceSub, hg', hb', hc, hcall, hw]
theorem do_ok {args O S r O' S'} (h : doP args O S = some (r, O', S')) : CallOk Try.prog 72 args O S r O' S' := by
  unfold doP at h
  split at h
  · split at h
    · rename_i d2 k2 ws hm
      split at h
      · rename_i hi
        split at h
        · rename_i w hw
          simp only [Option.some.injEq, Prod.mk.injEq] at h
          obtain ⟨rfl, rfl, rfl⟩ := h
          have H := memR_at hm
          refine bodyT call1_ok (n := 0) F72_code (run72_load _ _ H (fun F => ?_) hi.1 hi.2 hw)
          simp [call1, zeroP, (H.push F).memR]
        · cases h
      · cases h
    · cases h
  · cases h

/-! Mem.Load -/
def call2 : CallT := fun f args O S => if f = 72 then doP args O S else none
theorem call2_ok : CallsOk call2 := fun f args O S r O' S' h => by
  unfold call2 at h
  split at h
  · rename_i e; subst e; exact do_ok h
  · cases h
def loadP (args : List AV) (O : Mo) (S : Ms) : Ans :=
  match args with
  | [.ref d k off, .int .i64 i] => match memR O S d k off with
    | some (_, _, ws) => if 0 ≤ i ∧ i < ws.length then match ws[i.toNat]? with
      | some (.int .u64 w) => some (.tup [.int .u64 w, .int .i64 0], O, S)
      | _ => none
      else none
    | none => none
  | _ => none
theorem run71 (cfg : Cfg) (call : CallT) {O : Mo} {B : Ms} {d k off : Nat} {i w : Int}
    (hcall : ∀ F, call 72 [.ref d k off, .agg [.int .i64 1, .int .i64 i, .int .u64 0, .int .u64 0]] O (B ++ [F]) = some (.tup [.agg [.int .i64 1, .int .i64 i, .int .u64 w, .int .u64 w], .int .i64 0], O, B ++ [F])) :
    fin false F71 (exec cfg call 0 F71.body (enter F71 [.ref d k off, .int .i64 i] O B)) = some (.tup [.int .u64 w, .int .i64 0], O, B) := by
  simp (disch := first | decide | omega) only [F71, RAs, RBs, RCs, RDs, REs, RFs, RGs, RHs, RIs, RJs, RKs, RLs, if_true, if_false, dec_T, dec_F, Bool.not_true, Bool.not_false, Option.map_some, ite_true, Bool.and_true, List.map_cons, List.map_nil, List.length_cons, List.length_nil, List.nil_append, List.cons_append, Nat.zero_add, Nat.add_zero, Nat.mul_one, List.set_cons_zero, List.set_cons_succ, Int.toNat_natCast, List.drop_zero, List.drop_nil, List.drop_succ_cons, List.getElem?_drop, List.append_nil, List.length_set, decide_true, Bool.and_self, Bool.true_and, List.take_succ_cons, List.take_zero, Nat.reduceLT, Nat.reduceEqDiff, Nat.reduceAdd, Nat.reduceSub, hcall]
theorem load_ok {args O S r O' S'} (h : loadP args O S = some (r, O', S')) : CallOk Try.prog 71 args O S r O' S' := by
  unfold loadP at h
  split at h
  · rename_i d k off i
    split at h
    · rename_i d2 k2 ws hm
      split at h
      · rename_i hi
        split at h
        · rename_i w hw
          simp only [Option.some.injEq, Prod.mk.injEq] at h
          obtain ⟨rfl, rfl, rfl⟩ := h
          have H := memR_at hm
          refine bodyT call2_ok (n := 0) F71_code (run71 _ _ (fun F => ?_))
          simp only [call2, doP, (H.push F).memR, hw, hi, and_self, if_true]
        · cases h
      · cases h
    · cases h
  · cases h

/-! words.get -/
def call3 : CallT := fun f args O S => if f = 71 then loadP args O S else none
theorem call3_ok : CallsOk call3 := fun f args O S r O' S' h => by
  unfold call3 at h
  split at h
  · rename_i e; subst e; exact load_ok h
  · cases h
def getP (args : List AV) (O : Mo) (S : Ms) : Ans :=
  match args with
  | [.agg [.ref d k off], .int .i64 i] => match memR O S d k off with
    | some (_, _, ws) => if 0 ≤ i ∧ i < ws.length then match ws[i.toNat]? with
      | some (.int .u64 w) => some (.int .u64 w, O, S)
      | _ => none
      else none
    | none => none
  | _ => none
theorem run54 (cfg : Cfg) (call : CallT) {O : Mo} {B : Ms} {d k off : Nat} {i w : Int} (hd : d ≤ B.length)
    (hcall : ∀ F, call 71 [.ref d k off, .int .i64 i] O (B ++ [F]) = some (.tup [.int .u64 w, .int .i64 0], O, B ++ [F])) :
    fin false F54 (exec cfg call 0 F54.body (enter F54 [.agg [.ref d k off], .int .i64 i] O B)) = some (.int .u64 w, O, B) := by
  simp (disch := first | decide | omega) only [F54, RAs, RBs, RCs, RDs, REs, RFs, RGs, RHs, RIs, RJs, RKs, RLs, if_true, if_false, dec_T, dec_F, Bool.not_true, Bool.not_false, Option.map_some, ite_true, Bool.and_true, List.map_cons, List.map_nil, List.length_cons, List.length_nil, List.nil_append, List.cons_append, Nat.zero_add, Nat.add_zero, Nat.mul_one, List.set_cons_zero, List.set_cons_succ, Int.toNat_natCast, List.drop_zero, List.drop_nil, List.drop_succ_cons, List.getElem?_drop, List.append_nil, List.length_set, decide_true, Bool.and_self, Bool.true_and, List.take_succ_cons, List.take_zero, Nat.reduceLT, Nat.reduceEqDiff, Nat.reduceAdd, Nat.reduceSub, hcall]
theorem get_ok {args O S r O' S'} (h : getP args O S = some (r, O', S')) : CallOk Try.prog 54 args O S r O' S' := by
  unfold getP at h
  split at h
  · rename_i d k off i
    split at h
    · rename_i d2 k2 ws hm
      split at h
      · rename_i hi
        split at h
        · rename_i w hw
          simp only [Option.some.injEq, Prod.mk.injEq] at h
          obtain ⟨rfl, rfl, rfl⟩ := h
          have H := memR_at hm
          obtain ⟨cs, hg, _⟩ := H.cell
          refine bodyT call3_ok (n := 0) F54_code (run54 _ _ (gm_le hg) (fun F => ?_))
          simp only [call3, loadP, (H.push F).memR, hw, hi, and_self, if_true]
        · cases h
      · cases h
    · cases h
  · cases h
end Den.U

/- The contract of arena.Read. -/
namespace Den.U
open Go Go.Proofs
set_option maxRecDepth 100000
set_option linter.unusedSimpArgs false
/-! place -/
def placeP (args : List AV) (O : Mo) (S : Ms) : Ans :=
  match args with
  | [.int .i64 p, .int .i64 i] => if 0 ≤ p ∧ p ≤ 1000 ∧ 0 ≤ i ∧ i ≤ 1000 then some (.int .i64 (16 + 128 * (p - 1) + i), O, S) else none
  | _ => none
theorem place_ok {args O S r O' S'} (h : placeP args O S = some (r, O', S')) : CallOk Try.prog 51 args O S r O' S' := by
  unfold placeP at h
  split at h
  · rename_i p i
    split at h
    · rename_i hp
      simp only [Option.some.injEq, Prod.mk.injEq] at h
      obtain ⟨rfl, rfl, rfl⟩ := h
      refine bodyT noCall_ok (n := 0) F51_code ?_
      simp (disch := first | decide | omega) only [F51, RAs, RBs, RCs, RDs, REs, RFs, RGs, RHs, RIs, RJs, RKs, RLs, if_true, if_false, dec_T, dec_F, Bool.not_true, Bool.not_false, Option.map_some, ite_true, Bool.and_true, List.map_cons, List.map_nil, List.length_cons, List.length_nil, List.nil_append, List.cons_append, Nat.zero_add, Nat.add_zero, Nat.mul_one, List.set_cons_zero, List.set_cons_succ, Int.toNat_natCast, List.drop_zero, List.drop_nil, List.drop_succ_cons, List.getElem?_drop, List.append_nil, List.length_set, decide_true, Bool.and_self, Bool.true_and, List.take_succ_cons, List.take_zero, Nat.reduceLT, Nat.reduceEqDiff, Nat.reduceAdd, Nat.reduceSub]
    · cases h
  · cases h

/-- An arena's words, as they lie. -/
structure ArAt (O : Mo) (B : Ms) (da ka oa d k off d2 k2 : Nat) (ws : List AV) : Prop where
  cell : ∃ cs, gm O B da ka = some (.arr cs) ∧ cs[oa]? = some (.ref d k off)
  mem : MemAt O B d k off d2 k2 ws
theorem ArAt.push {O : Mo} {B : Ms} {da ka oa d k off d2 k2 : Nat} {ws : List AV} (h : ArAt O B da ka oa d k off d2 k2 ws) (F : List ABlk) : ArAt O (B ++ [F]) da ka oa d k off d2 k2 ws := by
  obtain ⟨⟨cs, hg, hc⟩, hb⟩ := h
  exact ⟨⟨cs, gm_pushL hg, hc⟩, hb.push F⟩
def arR (O : Mo) (S : Ms) (da ka oa : Nat) : Option (Nat × Nat × Nat × Nat × Nat × List AV) :=
  match gm O S da ka with
  | some (.arr cs) => match cs[oa]? with
    | some (.ref d k off) => match memR O S d k off with
      | some (d2, k2, ws) => some (d, k, off, d2, k2, ws)
      | none => none
    | _ => none
  | _ => none
theorem arR_at {O : Mo} {S : Ms} {da ka oa d k off d2 k2 : Nat} {ws : List AV} (h : arR O S da ka oa = some (d, k, off, d2, k2, ws)) : ArAt O S da ka oa d k off d2 k2 ws := by
  unfold arR at h
  split at h
  · rename_i cs hg
    split at h
    · rename_i hc
      split at h
      · rename_i hm
        simp only [Option.some.injEq, Prod.mk.injEq] at h
        obtain ⟨rfl, rfl, rfl, rfl, rfl, rfl⟩ := h
        exact ⟨⟨cs, hg, hc⟩, memR_at hm⟩
      · cases h
    · cases h
  · cases h
theorem ArAt.arR {O : Mo} {S : Ms} {da ka oa d k off d2 k2 : Nat} {ws : List AV} (h : ArAt O S da ka oa d k off d2 k2 ws) : arR O S da ka oa = some (d, k, off, d2, k2, ws) := by
  obtain ⟨⟨cs, hg, hc⟩, hb⟩ := h
  simp [Den.U.arR, hg, hc, hb.memR]

/-! none -/
def noneP (args : List AV) (O : Mo) (S : Ms) : Ans :=
  match args with
  | [.nilp] => some (.bool true, O, S)
  | [.ref da ka oa] => match gm O S da ka with
    | some (.arr cs) => match cs[oa]? with
      | some (.ref _ _ _) => some (.bool false, O, S)
      | some .nilp => some (.bool true, O, S)
      | _ => none
    | _ => none
  | _ => none
theorem none_ok {args O S r O' S'} (h : noneP args O S = some (r, O', S')) : CallOk Try.prog 33 args O S r O' S' := by
  unfold noneP at h
  split at h
  · simp only [Option.some.injEq, Prod.mk.injEq] at h
    obtain ⟨rfl, rfl, rfl⟩ := h
    refine bodyT noCall_ok (n := 0) F33_code ?_
    simp (disch := first | decide | omega) only [F33, RAs, RBs, RCs, RDs, REs, RFs, RGs, RHs, RIs, RJs, RKs, RLs, if_true, if_false, dec_T, dec_F, Bool.not_true, Bool.not_false, Option.map_some, ite_true, Bool.and_true, List.map_cons, List.map_nil, List.length_cons, List.length_nil, List.nil_append, List.cons_append, Nat.zero_add, Nat.add_zero, Nat.mul_one, List.set_cons_zero, List.set_cons_succ, Int.toNat_natCast, List.drop_zero, List.drop_nil, List.drop_succ_cons, List.getElem?_drop, List.append_nil, List.length_set, decide_true, Bool.and_self, Bool.true_and, List.take_succ_cons, List.take_zero, Nat.reduceLT, Nat.reduceEqDiff, Nat.reduceAdd, Nat.reduceSub]
  · rename_i da ka oa
    split at h
    · rename_i cs hg
      have hg' := gm_pushL (F := []) hg
      split at h
      · rename_i hc
        simp only [Option.some.injEq, Prod.mk.injEq] at h
        obtain ⟨rfl, rfl, rfl⟩ := h
        refine bodyT noCall_ok (n := 0) F33_code ?_
        simp (disch := first | decide | omega) only [F33, RAs, RBs, RCs, RDs, REs, RFs, RGs, RHs, RIs, RJs, RKs, RLs, if_true, if_false, dec_T, dec_F, Bool.not_true, Bool.not_false, Option.map_some, ite_true, Bool.and_true, List.map_cons, List.map_nil, List.length_cons, List.length_nil, List.nil_append, List.cons_append, Nat.zero_add, Nat.add_zero, Nat.mul_one, List.set_cons_zero, List.set_cons_succ, Int.toNat_natCast, List.drop_zero, List.drop_nil, List.drop_succ_cons, List.getElem?_drop, List.append_nil, List.length_set, decide_true, Bool.and_self, Bool.true_and, List.take_succ_cons, List.take_zero, Nat.reduceLT, Nat.reduceEqDiff, Nat.reduceAdd, Nat.reduceSub, hg', hc]
      · rename_i hc
        simp only [Option.some.injEq, Prod.mk.injEq] at h
        obtain ⟨rfl, rfl, rfl⟩ := h
        refine bodyT noCall_ok (n := 0) F33_code ?_
        simp (disch := first | decide | omega) only [F33, RAs, RBs, RCs, RDs, REs, RFs, RGs, RHs, RIs, RJs, RKs, RLs, if_true, if_false, dec_T, dec_F, Bool.not_true, Bool.not_false, Option.map_some, ite_true, Bool.and_true, List.map_cons, List.map_nil, List.length_cons, List.length_nil, List.nil_append, List.cons_append, Nat.zero_add, Nat.add_zero, Nat.mul_one, List.set_cons_zero, List.set_cons_succ, Int.toNat_natCast, List.drop_zero, List.drop_nil, List.drop_succ_cons, List.getElem?_drop, List.append_nil, List.length_set, decide_true, Bool.and_self, Bool.true_and, List.take_succ_cons, List.take_zero, Nat.reduceLT, Nat.reduceEqDiff, Nat.reduceAdd, Nat.reduceSub, hg', hc]
      · cases h
    · cases h
  · cases h

/-! pages -/
def call4 : CallT := fun f args O S => if f = 54 then getP args O S else none
theorem call4_ok : CallsOk call4 := fun f args O S r O' S' h => by
  unfold call4 at h
  split at h
  · rename_i e; subst e; exact get_ok h
  · cases h
def pagesP (args : List AV) (O : Mo) (S : Ms) : Ans :=
  match args with
  | [.ref da ka oa] => match arR O S da ka oa with
    | some (_, _, _, _, _, ws) => match ws[(0 : Nat)]? with
      | some (.int .u64 w) => if 0 ≤ w ∧ w ≤ 1000 then some (.int .i64 w, O, S) else none
      | _ => none
    | none => none
  | _ => none
theorem pages_ok {args O S r O' S'} (h : pagesP args O S = some (r, O', S')) : CallOk Try.prog 44 args O S r O' S' := by
  unfold pagesP at h
  split at h
  · rename_i da ka oa
    split at h
    · rename_i d k off d2 k2 ws hm
      split at h
      · rename_i w hw
        split at h
        · rename_i hb
          simp only [Option.some.injEq, Prod.mk.injEq] at h
          obtain ⟨rfl, rfl, rfl⟩ := h
          have H := arR_at hm
          obtain ⟨cs, hg, hc⟩ := H.cell
          have hg' : ∀ F, gm O (S ++ [F]) da ka = some (.arr cs) := fun F => gm_pushL hg
          have hl : 0 < ws.length := (List.getElem?_eq_some_iff.1 hw).1
          have hcall : ∀ F, call4 54 [.agg [.ref d k off], .int .i64 0] O (S ++ [F]) = some (.int .u64 w, O, S ++ [F]) := fun F => by
            have h1 : (0 : Int) ≤ 0 ∧ (0 : Int) < ws.length := ⟨by omega, by omega⟩
            have h2 : ws[(0 : Int).toNat]? = some (.int .u64 w) := hw
            simp only [call4, getP, (H.mem.push F).memR, h1, h2, and_self, if_true]
          refine bodyT call4_ok (n := 0) F44_code ?_
          simp (disch := first | decide | omega) only [F44, RAs, RBs, RCs, RDs, REs, RFs, RGs, RHs, RIs, RJs, RKs, RLs, if_true, if_false, dec_T, dec_F, Bool.not_true, Bool.not_false, Option.map_some, ite_true, Bool.and_true, List.map_cons, List.map_nil, List.length_cons, List.length_nil, List.nil_append, List.cons_append, Nat.zero_add, Nat.add_zero, Nat.mul_one, List.set_cons_zero, List.set_cons_succ, Int.toNat_natCast, List.drop_zero, List.drop_nil, List.drop_succ_cons, List.getElem?_drop, List.append_nil, List.length_set, decide_true, Bool.and_self, Bool.true_and, List.take_succ_cons, List.take_zero, Nat.reduceLT, Nat.reduceEqDiff, Nat.reduceAdd, Nat.reduceSub, hg', hc, hcall]
        · cases h
      · cases h
    · cases h
  · cases h

/-! there -/
def call5 : CallT := fun f args O S => if f = 33 then noneP args O S else if f = 44 then pagesP args O S else none
theorem call5_ok : CallsOk call5 := fun f args O S r O' S' h => by
  unfold call5 at h
  split at h
  · rename_i e; subst e; exact none_ok h
  · split at h
    · rename_i e; subst e; exact pages_ok h
    · cases h
theorem ArAt.noneP {O : Mo} {S : Ms} {da ka oa d k off d2 k2 : Nat} {ws : List AV} (h : ArAt O S da ka oa d k off d2 k2 ws) : noneP [.ref da ka oa] O S = some (.bool false, O, S) := by
  obtain ⟨⟨cs, hg, hc⟩, _⟩ := h
  simp only [Den.U.noneP, hg, hc]
theorem ArAt.pagesP {O : Mo} {S : Ms} {da ka oa d k off d2 k2 : Nat} {ws : List AV} (h : ArAt O S da ka oa d k off d2 k2 ws) {w : Int} (hw : ws[(0 : Nat)]? = some (.int .u64 w)) (hb : 0 ≤ w ∧ w ≤ 1000) : pagesP [.ref da ka oa] O S = some (.int .i64 w, O, S) := by
  simp only [Den.U.pagesP, h.arR, hw, hb, and_self, if_true]
def thereP (args : List AV) (O : Mo) (S : Ms) : Ans :=
  match args with
  | [.ref da ka oa, .int .i64 p] => match arR O S da ka oa with
    | some (_, _, _, _, _, ws) => match ws[(0 : Nat)]? with
      | some (.int .u64 w) => if 0 ≤ w ∧ w ≤ 1000 then some (.int .i64 (if p < 1 ∨ w < p then 3 else 0), O, S) else none
      | _ => none
    | none => none
  | _ => none
theorem there_ok {args O S r O' S'} (h : thereP args O S = some (r, O', S')) : CallOk Try.prog 56 args O S r O' S' := by
  unfold thereP at h
  split at h
  · rename_i da ka oa p
    split at h
    · rename_i d k off d2 k2 ws hm
      split at h
      · rename_i w hw
        split at h
        · rename_i hb
          simp only [Option.some.injEq, Prod.mk.injEq] at h
          obtain ⟨rfl, rfl, rfl⟩ := h
          have H := arR_at hm
          have h33 : ∀ F, call5 33 [.ref da ka oa] O (S ++ [F]) = some (.bool false, O, S ++ [F]) := fun F => by
            simp only [call5, (H.push F).noneP, if_true]
          have h44 : ∀ F, call5 44 [.ref da ka oa] O (S ++ [F]) = some (.int .i64 w, O, S ++ [F]) := fun F => by
            simp only [call5, (H.push F).pagesP hw hb, Nat.reduceEqDiff, if_true, if_false]
          refine bodyT call5_ok (n := 0) F56_code ?_
          by_cases h1 : p < 1
          · have e : (if p < 1 ∨ w < p then (3 : Int) else 0) = 3 := by rw [if_pos (Or.inl h1)]
            rw [e]
            simp (disch := first | decide | omega) only [F56, RAs, RBs, RCs, RDs, REs, RFs, RGs, RHs, RIs, RJs, RKs, RLs, if_true, if_false, dec_T, dec_F, Bool.not_true, Bool.not_false, Option.map_some, ite_true, Bool.and_true, List.map_cons, List.map_nil, List.length_cons, List.length_nil, List.nil_append, List.cons_append, Nat.zero_add, Nat.add_zero, Nat.mul_one, List.set_cons_zero, List.set_cons_succ, Int.toNat_natCast, List.drop_zero, List.drop_nil, List.drop_succ_cons, List.getElem?_drop, List.append_nil, List.length_set, decide_true, Bool.and_self, Bool.true_and, List.take_succ_cons, List.take_zero, Nat.reduceLT, Nat.reduceEqDiff, Nat.reduceAdd, Nat.reduceSub, h33, h44]
          · by_cases h2 : w < p
            · have e : (if p < 1 ∨ w < p then (3 : Int) else 0) = 3 := by rw [if_pos (Or.inr h2)]
              rw [e]
              simp (disch := first | decide | omega) only [F56, RAs, RBs, RCs, RDs, REs, RFs, RGs, RHs, RIs, RJs, RKs, RLs, if_true, if_false, dec_T, dec_F, Bool.not_true, Bool.not_false, Option.map_some, ite_true, Bool.and_true, List.map_cons, List.map_nil, List.length_cons, List.length_nil, List.nil_append, List.cons_append, Nat.zero_add, Nat.add_zero, Nat.mul_one, List.set_cons_zero, List.set_cons_succ, Int.toNat_natCast, List.drop_zero, List.drop_nil, List.drop_succ_cons, List.getElem?_drop, List.append_nil, List.length_set, decide_true, Bool.and_self, Bool.true_and, List.take_succ_cons, List.take_zero, Nat.reduceLT, Nat.reduceEqDiff, Nat.reduceAdd, Nat.reduceSub, h33, h44]
            · have e : (if p < 1 ∨ w < p then (3 : Int) else 0) = 0 := by rw [if_neg (by omega)]
              rw [e]
              simp (disch := first | decide | omega) only [F56, RAs, RBs, RCs, RDs, REs, RFs, RGs, RHs, RIs, RJs, RKs, RLs, if_true, if_false, dec_T, dec_F, Bool.not_true, Bool.not_false, Option.map_some, ite_true, Bool.and_true, List.map_cons, List.map_nil, List.length_cons, List.length_nil, List.nil_append, List.cons_append, Nat.zero_add, Nat.add_zero, Nat.mul_one, List.set_cons_zero, List.set_cons_succ, Int.toNat_natCast, List.drop_zero, List.drop_nil, List.drop_succ_cons, List.getElem?_drop, List.append_nil, List.length_set, decide_true, Bool.and_self, Bool.true_and, List.take_succ_cons, List.take_zero, Nat.reduceLT, Nat.reduceEqDiff, Nat.reduceAdd, Nat.reduceSub, h33, h44]
        · cases h
      · cases h
    · cases h
  · cases h
theorem ArAt.thereP {O : Mo} {S : Ms} {da ka oa d k off d2 k2 : Nat} {ws : List AV} (h : ArAt O S da ka oa d k off d2 k2 ws) {w p : Int} (hw : ws[(0 : Nat)]? = some (.int .u64 w)) (hb : 0 ≤ w ∧ w ≤ 1000) :
    thereP [.ref da ka oa, .int .i64 p] O S = some (.int .i64 (if p < 1 ∨ w < p then 3 else 0), O, S) := by
  simp only [Den.U.thereP, h.arR, hw, hb, and_self, if_true]

/-! Read -/
def call6 : CallT := fun f args O S => if f = 56 then thereP args O S else if f = 51 then placeP args O S else if f = 54 then getP args O S else none
theorem call6_ok : CallsOk call6 := fun f args O S r O' S' h => by
  unfold call6 at h
  split at h
  · rename_i e; subst e; exact there_ok h
  · split at h
    · rename_i e; subst e; exact place_ok h
    · split at h
      · rename_i e; subst e; exact get_ok h
      · cases h
def isU64 : AV → Bool
  | .int .u64 _ => true
  | _ => false
theorem isU64_eq {v : AV} (h : isU64 v = true) : ∃ w, v = .int .u64 w := by
  unfold isU64 at h
  split at h
  · exact ⟨_, rfl⟩
  · cases h
def zero128 : List AV := List.replicate 128 (.int .u64 0)
def readP (args : List AV) (O : Mo) (S : Ms) : Ans :=
  match args with
  | [.ref da ka oa, .int .i64 p] => match arR O S da ka oa with
    | some (_, _, _, _, _, ws) => match ws[(0 : Nat)]? with
      | some (.int .u64 w) => if 0 ≤ w ∧ w ≤ 1000 then
          if p < 1 ∨ w < p then some (.tup [.agg zero128, .int .i64 3], O, S)
          else
            let c := (ws.drop (16 + 128 * (p.toNat - 1))).take 128
            if c.length = 128 ∧ c.all isU64 = true then some (.tup [.agg c, .int .i64 0], O, S) else none
        else none
      | _ => none
    | none => none
  | _ => none

/-- One round. -/
theorem read_round (cfg : Cfg) (N : Nat) {O : Mo} {B : Ms} {da ka oa d k off d2 k2 : Nat} {ws : List AV} (H : ArAt O B da ka oa d k off d2 k2 ws) {p i w : Int} {cs A : List AV} {env : Env}
    (hp : 1 ≤ p ∧ p ≤ 1000) (hi : 0 ≤ i ∧ i < 128) (hl : 16 + 128 * (p - 1) + i < ws.length) (hw : ws[(16 + 128 * (p - 1) + i).toNat]? = some (.int .u64 w)) (hcs : cs.length = 128)
    (e0 : env 0 = .ref da ka oa) (e1 : env 1 = .int .i64 p) (e6 : env 6 = .ref (B.length + 1) 1 0) (e16 : env 16 = .int .i64 i) :
    ∃ env', exec cfg call6 N B39x0 ⟨leOf 31 env, O, B ++ [[.arr A, .arr cs]]⟩ = some (.normal, ⟨leOf 31 env', O, B ++ [[.arr A, .arr (cs.set i.toNat (.int .u64 w))]]⟩) ∧
      env' 0 = .ref da ka oa ∧ env' 1 = .int .i64 p ∧ env' 4 = env 4 ∧ env' 5 = env 5 ∧ env' 6 = .ref (B.length + 1) 1 0 ∧ env' 16 = .int .i64 (i + 1) := by
  obtain ⟨ca, hg, hc⟩ := H.cell
  have hg' : ∀ F, gm O (B ++ [F]) da ka = some (.arr ca) := fun F => gm_pushL hg
  have h51 : ∀ F, call6 51 [.int .i64 p, .int .i64 i] O (B ++ [F]) = some (.int .i64 (16 + 128 * (p - 1) + i), O, B ++ [F]) := fun F => by
    have : 0 ≤ p ∧ p ≤ 1000 ∧ 0 ≤ i ∧ i ≤ 1000 := by omega
    simp only [call6, placeP, Nat.reduceEqDiff, if_true, if_false, this, and_self]
  have h54 : ∀ F, call6 54 [.agg [.ref d k off], .int .i64 (16 + 128 * (p - 1) + i)] O (B ++ [F]) = some (.int .u64 w, O, B ++ [F]) := fun F => by
    have h1 : 0 ≤ 16 + 128 * (p - 1) + i ∧ 16 + 128 * (p - 1) + i < ws.length := by omega
    simp only [call6, getP, Nat.reduceEqDiff, if_true, if_false, (H.mem.push F).memR, h1, and_self, hw]
  refine ⟨?en, ?eq, ?re⟩
  case eq =>
    simp (disch := first | decide | omega) only [B39x0, RAs, RBs, RCs, RDs, REs, RFs, RGs, RHs, RIs, RJs, RKs, RLs, if_true, if_false, dec_T, dec_F, Bool.not_true, Bool.not_false, Option.map_some, ite_true, Bool.and_true, List.map_cons, List.map_nil, List.length_cons, List.length_nil, List.nil_append, List.cons_append, Nat.zero_add, Nat.add_zero, Nat.mul_one, List.set_cons_zero, List.set_cons_succ, Int.toNat_natCast, List.drop_zero, List.drop_nil, List.drop_succ_cons, List.getElem?_drop, List.append_nil, List.length_set, decide_true, Bool.and_self, Bool.true_and, List.take_succ_cons, List.take_zero, Nat.reduceLT, Nat.reduceEqDiff, Nat.reduceAdd, Nat.reduceSub, hg', hc, h51, h54, e0, e1, e6, e16, hcs]
    rfl
  case re => simp (disch := first | decide | omega) only [RAs, RBs, RCs, RDs, REs, RFs, RGs, RHs, RIs, RJs, RKs, RLs, if_true, if_false, dec_T, dec_F, Bool.not_true, Bool.not_false, Option.map_some, ite_true, Bool.and_true, List.map_cons, List.map_nil, List.length_cons, List.length_nil, List.nil_append, List.cons_append, Nat.zero_add, Nat.add_zero, Nat.mul_one, List.set_cons_zero, List.set_cons_succ, Int.toNat_natCast, List.drop_zero, List.drop_nil, List.drop_succ_cons, List.getElem?_drop, List.append_nil, List.length_set, decide_true, Bool.and_self, Bool.true_and, List.take_succ_cons, List.take_zero, Nat.reduceLT, Nat.reduceEqDiff, Nat.reduceAdd, Nat.reduceSub, e0, e1, e6, e16, and_self]

theorem read_loop (cfg : Cfg) (N : Nat) {O : Mo} {B : Ms} {da ka oa d k off d2 k2 : Nat} {ws : List AV} (H : ArAt O B da ka oa d k off d2 k2 ws) {p : Int} {c A : List AV}
    (hp : 1 ≤ p ∧ p ≤ 1000) (hc : c = (ws.drop (16 + 128 * (p.toNat - 1))).take 128) (hl : c.length = 128) (hu : c.all isU64 = true) :
    ∀ (m i : Nat), i + m = 128 → ∀ (M : Nat) (env : Env) (cs : List AV), cs.length = 128 → (∀ j, j < i → cs[j]? = c[j]?) →
      env 0 = .ref da ka oa → env 1 = .int .i64 p → env 6 = .ref (B.length + 1) 1 0 → env 16 = .int .i64 i →
      ∃ env', loopN (exec cfg call6 N B39x0) [] (M + m + 1) ⟨leOf 31 env, O, B ++ [[.arr A, .arr cs]]⟩ = some (.exit 0, ⟨leOf 31 env', O, B ++ [[.arr A, .arr c]]⟩) ∧
        env' 4 = env 4 ∧ env' 5 = env 5 ∧ env' 6 = .ref (B.length + 1) 1 0 := by
  intro m
  induction m with
  | zero =>
    intro i him M env cs hcs hpre e0 e1 e6 e16
    have hi : i = 128 := by omega
    subst hi
    have he : cs = c := List.ext_getElem? fun j => by
      by_cases hj : j < 128
      · exact hpre j hj
      · rw [List.getElem?_eq_none (by omega), List.getElem?_eq_none (by omega)]
    subst he
    refine ⟨?en, loop_exit (?eq : _ = some (Ex.exit 0, _)), ?re⟩
    case eq =>
      simp (disch := first | decide | omega) only [B39x0, RAs, RBs, RCs, RDs, REs, RFs, RGs, RHs, RIs, RJs, RKs, RLs, if_true, if_false, dec_T, dec_F, Bool.not_true, Bool.not_false, Option.map_some, ite_true, Bool.and_true, List.map_cons, List.map_nil, List.length_cons, List.length_nil, List.nil_append, List.cons_append, Nat.zero_add, Nat.add_zero, Nat.mul_one, List.set_cons_zero, List.set_cons_succ, Int.toNat_natCast, List.drop_zero, List.drop_nil, List.drop_succ_cons, List.getElem?_drop, List.append_nil, List.length_set, decide_true, Bool.and_self, Bool.true_and, List.take_succ_cons, List.take_zero, Nat.reduceLT, Nat.reduceEqDiff, Nat.reduceAdd, Nat.reduceSub, e16]
      rfl
    case re => simp (disch := first | decide | omega) only [RAs, RBs, RCs, RDs, REs, RFs, RGs, RHs, RIs, RJs, RKs, RLs, if_true, if_false, dec_T, dec_F, Bool.not_true, Bool.not_false, Option.map_some, ite_true, Bool.and_true, List.map_cons, List.map_nil, List.length_cons, List.length_nil, List.nil_append, List.cons_append, Nat.zero_add, Nat.add_zero, Nat.mul_one, List.set_cons_zero, List.set_cons_succ, Int.toNat_natCast, List.drop_zero, List.drop_nil, List.drop_succ_cons, List.getElem?_drop, List.append_nil, List.length_set, decide_true, Bool.and_self, Bool.true_and, List.take_succ_cons, List.take_zero, Nat.reduceLT, Nat.reduceEqDiff, Nat.reduceAdd, Nat.reduceSub, e6, and_self]
  | succ m ih =>
    intro i him M env cs hcs hpre e0 e1 e6 e16
    have hlen : c.length = min 128 (ws.length - (16 + 128 * (p.toNat - 1))) := by rw [hc]; simp
    have hb : 16 + 128 * (p.toNat - 1) + 128 ≤ ws.length := by omega
    have hci : c[i]? = ws[(16 + 128 * (p - 1) + i).toNat]? := by
      rw [hc, List.getElem?_take, if_pos (by omega), List.getElem?_drop]
      congr 1; omega
    have hic : i < c.length := by omega
    obtain ⟨w, hw⟩ := isU64_eq (List.all_eq_true.1 hu (c[i]) (List.getElem_mem hic))
    have hcw : c[i]? = some (.int .u64 w) := by rw [List.getElem?_eq_getElem hic, hw]
    obtain ⟨env', er, f0, f1, f4, f5, f6, f16⟩ := read_round cfg N H (i := (i : Int)) (w := w) (A := A) hp ⟨by omega, by omega⟩ (by omega) (by rw [← hci]; exact hcw) hcs e0 e1 e6 e16
    have hn : (i : Int).toNat = i := rfl
    rw [hn] at er
    obtain ⟨env2, el, g4, g5, g6⟩ := ih (i + 1) (by omega) M env' (cs.set i (.int .u64 w)) (by simpa using hcs) (fun j hj => by
      by_cases e : j = i
      · subst e
        have : j < cs.length := by omega
        simp [this, hcw]
      · rw [List.getElem?_set_ne (fun h => e h.symm)]; exact hpre j (by omega)) f0 f1 f6 (by rw [f16]; congr 1)
    refine ⟨env2, ?_, by rw [g4, f4], by rw [g5, f5], g6⟩
    have : M + (m + 1) + 1 = (M + m + 1) + 1 := by omega
    rw [this, loop_round er]; exact el
theorem plainU {c : List AV} (hu : c.all isU64 = true) : c.all plain = true := by
  rw [List.all_eq_true] at hu ⊢
  intro x hx
  obtain ⟨w, rfl⟩ := isU64_eq (hu x hx)
  rfl
theorem read_ok {args O S r O' S'} (h : readP args O S = some (r, O', S')) : CallOk Try.prog 39 args O S r O' S' := by
  unfold readP at h
  split at h
  · rename_i da ka oa p
    split at h
    · rename_i d k off d2 k2 ws hm
      split at h
      · rename_i w hw
        split at h
        · rename_i hb
          have H := arR_at hm
          have h56 : ∀ F, call6 56 [.ref da ka oa, .int .i64 p] O (S ++ [F]) = some (.int .i64 (if p < 1 ∨ w < p then 3 else 0), O, S ++ [F]) := fun F => by
            simp only [call6, (H.push F).thereP hw hb, if_true]
          have hz : zero128.length = 128 := by simp [zero128]
          have hzp : zero128.all plain = true := by simp [zero128, plain]
          have hz0 : List.replicate 128 (AV.int .u64 0) = zero128 := rfl
          have hz1 : snapL (S ++ [[.arr zero128, .arr zero128]]) zero128 = some zero128 := snapL_plain _ _ hzp
          have hz2 : lowL (S.length + 1 + 1) zero128 = true := lowL_plain hzp
          have hz3 : zero128.take 128 = zero128 := List.take_of_length_le (by omega)
          have hz4 : zero128.drop 128 = [] := List.drop_eq_nil_of_le (by omega)
          split at h
          · rename_i hpw
            simp only [Option.some.injEq, Prod.mk.injEq] at h
            obtain ⟨rfl, rfl, rfl⟩ := h
            refine bodyT call6_ok (n := 200) F39_code ?_
            rw [if_pos hpw] at h56
            simp (disch := first | decide | omega) only [F39, RAs, RBs, RCs, RDs, REs, RFs, RGs, RHs, RIs, RJs, RKs, RLs, if_true, if_false, dec_T, dec_F, Bool.not_true, Bool.not_false, Option.map_some, ite_true, Bool.and_true, List.map_cons, List.map_nil, List.length_cons, List.length_nil, List.nil_append, List.cons_append, Nat.zero_add, Nat.add_zero, Nat.mul_one, List.set_cons_zero, List.set_cons_succ, Int.toNat_natCast, List.drop_zero, List.drop_nil, List.drop_succ_cons, List.getElem?_drop, List.append_nil, List.length_set, decide_true, Bool.and_self, Bool.true_and, List.take_succ_cons, List.take_zero, Nat.reduceLT, Nat.reduceEqDiff, Nat.reduceAdd, Nat.reduceSub, h56, hz0, hz, hz1, hz2, hz3, hz4]
          · rename_i hpw
            dsimp only at h
            split at h
            · rename_i hcl
              simp only [Option.some.injEq, Prod.mk.injEq] at h
              obtain ⟨rfl, rfl, rfl⟩ := h
              refine bodyT call6_ok (n := 200) F39_code ?_
              rw [if_neg hpw] at h56
              generalize hc : (ws.drop (16 + 128 * (p.toNat - 1))).take 128 = c at hcl ⊢
              have hl := hcl.1
              have hlp := plainU hcl.2
              have hs1 : snapL (S ++ [[.arr c, .arr c]]) c = some c := snapL_plain _ _ hlp
              have hs2 : lowL (S.length + 1 + 1) c = true := lowL_plain hlp
              have hs3 : c.take 128 = c := List.take_of_length_le (by omega)
              obtain ⟨aft, ha, hq⟩ := skolem (H := fun env => env 0 = .ref da ka oa ∧ env 1 = .int .i64 p ∧ env 6 = .ref (S.length + 1) 1 0 ∧ env 16 = .int .i64 0)
                (P := fun env env' => loopN (exec cfgA call6 200 B39x0) [] 200 ⟨leOf 31 env, O, S ++ [[.arr zero128, .arr zero128]]⟩ = some (.exit 0, ⟨leOf 31 env', O, S ++ [[.arr zero128, .arr c]]⟩))
                (Q := fun env env' => env' 4 = env 4 ∧ env' 5 = env 5 ∧ env' 6 = .ref (S.length + 1) 1 0)
                (fun env hh => read_loop cfgA 200 H ⟨by omega, by omega⟩ hc.symm hl hcl.2 128 0 rfl 71 env zero128 hz (fun j hj => by omega) hh.1 hh.2.1 hh.2.2.1 hh.2.2.2)
                (fun env => ⟨upd env 6 (.ref (S.length + 1) 1 0), by simp [upd], by simp [upd], by simp [upd]⟩)
              simp (disch := first | decide | omega) only [F39, RAs, RBs, RCs, RDs, REs, RFs, RGs, RHs, RIs, RJs, RKs, RLs, if_true, if_false, dec_T, dec_F, Bool.not_true, Bool.not_false, Option.map_some, ite_true, Bool.and_true, List.map_cons, List.map_nil, List.length_cons, List.length_nil, List.nil_append, List.cons_append, Nat.zero_add, Nat.add_zero, Nat.mul_one, List.set_cons_zero, List.set_cons_succ, Int.toNat_natCast, List.drop_zero, List.drop_nil, List.drop_succ_cons, List.getElem?_drop, List.append_nil, List.length_set, decide_true, Bool.and_self, Bool.true_and, List.take_succ_cons, List.take_zero, Nat.reduceLT, Nat.reduceEqDiff, Nat.reduceAdd, Nat.reduceSub, h56, hz0, e_loop]
              rw [ha _ ?hh]
              case hh => simp (disch := first | decide | omega) only [RAs, RBs, RCs, RDs, REs, RFs, RGs, RHs, RIs, RJs, RKs, RLs, if_true, if_false, dec_T, dec_F, Bool.not_true, Bool.not_false, Option.map_some, ite_true, Bool.and_true, List.map_cons, List.map_nil, List.length_cons, List.length_nil, List.nil_append, List.cons_append, Nat.zero_add, Nat.add_zero, Nat.mul_one, List.set_cons_zero, List.set_cons_succ, Int.toNat_natCast, List.drop_zero, List.drop_nil, List.drop_succ_cons, List.getElem?_drop, List.append_nil, List.length_set, decide_true, Bool.and_self, Bool.true_and, List.take_succ_cons, List.take_zero, Nat.reduceLT, Nat.reduceEqDiff, Nat.reduceAdd, Nat.reduceSub, and_self]
              simp (disch := first | decide | omega) only [RAs, RBs, RCs, RDs, REs, RFs, RGs, RHs, RIs, RJs, RKs, RLs, if_true, if_false, dec_T, dec_F, Bool.not_true, Bool.not_false, Option.map_some, ite_true, Bool.and_true, List.map_cons, List.map_nil, List.length_cons, List.length_nil, List.nil_append, List.cons_append, Nat.zero_add, Nat.add_zero, Nat.mul_one, List.set_cons_zero, List.set_cons_succ, Int.toNat_natCast, List.drop_zero, List.drop_nil, List.drop_succ_cons, List.getElem?_drop, List.append_nil, List.length_set, decide_true, Bool.and_self, Bool.true_and, List.take_succ_cons, List.take_zero, Nat.reduceLT, Nat.reduceEqDiff, Nat.reduceAdd, Nat.reduceSub, fun env => (hq env).1, fun env => (hq env).2.1, fun env => (hq env).2.2, hz, hz4, hl, hs1, hs2, hs3]
            · cases h
        · cases h
      · cases h
    · cases h
  · cases h
end Den.U

/- Contracts of keys.Words and keys.Unpack. -/
namespace Den.U
open Go Go.Proofs
set_option maxRecDepth 100000
set_option linter.unusedSimpArgs false
def wordsI (n : Int) : Int := if n ≤ 0 then 0 else (n - 1) / 8 + 1
def wordsP (args : List AV) (O : Mo) (S : Ms) : Ans :=
  match args with
  | [.int .i64 n] => if -1000000 ≤ n ∧ n ≤ 1000000 then some (.int .i64 (wordsI n), O, S) else none
  | _ => none
theorem words_ok {args O S r O' S'} (h : wordsP args O S = some (r, O', S')) : CallOk Try.prog 81 args O S r O' S' := by
  unfold wordsP at h
  split at h
  · rename_i n
    split at h
    · simp only [Option.some.injEq, Prod.mk.injEq] at h
      obtain ⟨rfl, rfl, rfl⟩ := h
      refine bodyT noCall_ok (n := 0) F81_code ?_
      unfold wordsI
      by_cases hn : n ≤ 0
      · rw [if_pos hn]; simp (disch := first | decide | omega) only [F81, RAs, RBs, RCs, RDs, REs, RFs, RGs, RHs, RIs, RJs, RKs, RLs, if_true, if_false, dec_T, dec_F, Bool.not_true, Bool.not_false, Option.map_some, ite_true, Bool.and_true, List.map_cons, List.map_nil, List.length_cons, List.length_nil, List.nil_append, List.cons_append, Nat.zero_add, Nat.add_zero, Nat.mul_one, List.set_cons_zero, List.set_cons_succ, Int.toNat_natCast, List.drop_zero, List.drop_nil, List.drop_succ_cons, List.getElem?_drop, List.append_nil, List.length_set, decide_true, Bool.and_self, Bool.true_and, List.take_succ_cons, List.take_zero, Nat.reduceLT, Nat.reduceEqDiff, Nat.reduceAdd, Nat.reduceSub]
      · rw [if_neg hn]; simp (disch := first | decide | omega) only [F81, RAs, RBs, RCs, RDs, REs, RFs, RGs, RHs, RIs, RJs, RKs, RLs, if_true, if_false, dec_T, dec_F, Bool.not_true, Bool.not_false, Option.map_some, ite_true, Bool.and_true, List.map_cons, List.map_nil, List.length_cons, List.length_nil, List.nil_append, List.cons_append, Nat.zero_add, Nat.add_zero, Nat.mul_one, List.set_cons_zero, List.set_cons_succ, Int.toNat_natCast, List.drop_zero, List.drop_nil, List.drop_succ_cons, List.getElem?_drop, List.append_nil, List.length_set, decide_true, Bool.and_self, Bool.true_and, List.take_succ_cons, List.take_zero, Nat.reduceLT, Nat.reduceEqDiff, Nat.reduceAdd, Nat.reduceSub]
    · cases h
  · cases h

/-! Unpack -/
def callU : CallT := fun f args O S => if f = 81 then wordsP args O S else none
theorem callU_ok : CallsOk callU := fun f args O S r O' S' h => by
  unfold callU at h
  split at h
  · rename_i e; subst e; exact words_ok h
  · cases h
/-- A byte of a word, as it lies; the bytes of a word down from one. -/
def cellOf (w : Int) (k : Nat) : AV := .int .u8 (w / 2 ^ (8 * k) % 256)
def downC (w : Int) : Nat → List AV
  | 0 => []
  | k + 1 => cellOf w k :: downC w k

theorem unpack_round0 (cfg : Cfg) (N : Nat) {O : Mo} {B : Ms} {bs : List AV} {w : Int} {k : Nat} {env : Env} (hw : 0 ≤ w) (hk : k < 8) (hb : bs.length ≤ 1000)
    (e6 : env 6 = outV B bs) (e8 : env 8 = .int .u64 w) (e9 : env 9 = .int .i64 k) :
    ∃ env', exec cfg callU N B82x0 ⟨leOf 58 env, O, B ++ [outF bs]⟩ = some (.normal, ⟨leOf 58 env', O, B ++ [outF (bs ++ [cellOf w k])]⟩) ∧
      env' 6 = outV B (bs ++ [cellOf w k]) ∧ env' 8 = .int .u64 w ∧ env' 9 = .int .i64 ((k : Int) - 1) ∧ env' 0 = env 0 ∧ env' 1 = env 1 ∧ env' 5 = env 5 ∧ env' 24 = env 24 ∧ env' 25 = env 25 ∧ env' 26 = env 26 := by
  have hk8 : (8 * (k : Int)).toNat = 8 * k := by omega
  refine ⟨?en, ?eq, ?re⟩
  case eq =>
    simp (disch := first | decide | omega) only [B82x0, RAs, RBs, RCs, RDs, REs, RFs, RGs, RHs, RIs, RJs, RKs, RLs, if_true, if_false, dec_T, dec_F, Bool.not_true, Bool.not_false, Option.map_some, ite_true, Bool.and_true, List.map_cons, List.map_nil, List.length_cons, List.length_nil, List.nil_append, List.cons_append, Nat.zero_add, Nat.add_zero, Nat.mul_one, List.set_cons_zero, List.set_cons_succ, Int.toNat_natCast, List.drop_zero, List.drop_nil, List.drop_succ_cons, List.getElem?_drop, List.append_nil, List.length_set, decide_true, Bool.and_self, Bool.true_and, List.take_succ_cons, List.take_zero, Nat.reduceLT, Nat.reduceEqDiff, Nat.reduceAdd, Nat.reduceSub, e6, e8, e9, shr_P, wr_u8m, rep1, bsl_int, c_isl1, app_int, hk8]
    rfl
  case re => simp (disch := first | decide | omega) only [RAs, RBs, RCs, RDs, REs, RFs, RGs, RHs, RIs, RJs, RKs, RLs, if_true, if_false, dec_T, dec_F, Bool.not_true, Bool.not_false, Option.map_some, ite_true, Bool.and_true, List.map_cons, List.map_nil, List.length_cons, List.length_nil, List.nil_append, List.cons_append, Nat.zero_add, Nat.add_zero, Nat.mul_one, List.set_cons_zero, List.set_cons_succ, Int.toNat_natCast, List.drop_zero, List.drop_nil, List.drop_succ_cons, List.getElem?_drop, List.append_nil, List.length_set, decide_true, Bool.and_self, Bool.true_and, List.take_succ_cons, List.take_zero, Nat.reduceLT, Nat.reduceEqDiff, Nat.reduceAdd, Nat.reduceSub, and_self, hk8, e8, cellOf]

theorem downC_len (w : Int) : ∀ k, (downC w k).length = k
  | 0 => rfl
  | k + 1 => by simp [downC, downC_len w k]

theorem unpack_loop0 (cfg : Cfg) (N : Nat) {O : Mo} {B : Ms} {w : Int} (hw : 0 ≤ w) : ∀ (k : Nat) (M : Nat) (bs : List AV) (env : Env), k ≤ 8 → bs.length + k ≤ 1000 →
    env 6 = outV B bs → env 8 = .int .u64 w → env 9 = .int .i64 ((k : Int) - 1) →
    ∃ env', loopN (exec cfg callU N B82x0) [] (M + k + 1) ⟨leOf 58 env, O, B ++ [outF bs]⟩ = some (.exit 3, ⟨leOf 58 env', O, B ++ [outF (bs ++ downC w k)]⟩) ∧
      (env' 6 = outV B (bs ++ downC w k) ∧ env' 0 = env 0 ∧ env' 1 = env 1 ∧ env' 5 = env 5 ∧ env' 24 = env 24 ∧ env' 25 = env 25 ∧ env' 26 = env 26) := by
  intro k
  induction k with
  | zero =>
    intro M bs env _ _ e6 e8 e9
    have e9' : env 9 = .int .i64 (-1) := e9
    refine ⟨?en, loop_exit (?eq : _ = some (Ex.exit 3, _)), ?re⟩
    case eq =>
      simp (disch := first | decide | omega) only [B82x0, RAs, RBs, RCs, RDs, REs, RFs, RGs, RHs, RIs, RJs, RKs, RLs, if_true, if_false, dec_T, dec_F, Bool.not_true, Bool.not_false, Option.map_some, ite_true, Bool.and_true, List.map_cons, List.map_nil, List.length_cons, List.length_nil, List.nil_append, List.cons_append, Nat.zero_add, Nat.add_zero, Nat.mul_one, List.set_cons_zero, List.set_cons_succ, Int.toNat_natCast, List.drop_zero, List.drop_nil, List.drop_succ_cons, List.getElem?_drop, List.append_nil, List.length_set, decide_true, Bool.and_self, Bool.true_and, List.take_succ_cons, List.take_zero, Nat.reduceLT, Nat.reduceEqDiff, Nat.reduceAdd, Nat.reduceSub, e9', downC]
      rfl
    case re => simp (disch := first | decide | omega) only [RAs, RBs, RCs, RDs, REs, RFs, RGs, RHs, RIs, RJs, RKs, RLs, if_true, if_false, dec_T, dec_F, Bool.not_true, Bool.not_false, Option.map_some, ite_true, Bool.and_true, List.map_cons, List.map_nil, List.length_cons, List.length_nil, List.nil_append, List.cons_append, Nat.zero_add, Nat.add_zero, Nat.mul_one, List.set_cons_zero, List.set_cons_succ, Int.toNat_natCast, List.drop_zero, List.drop_nil, List.drop_succ_cons, List.getElem?_drop, List.append_nil, List.length_set, decide_true, Bool.and_self, Bool.true_and, List.take_succ_cons, List.take_zero, Nat.reduceLT, Nat.reduceEqDiff, Nat.reduceAdd, Nat.reduceSub, e6, downC, and_self]
  | succ k ih =>
    intro M bs env hk hb e6 e8 e9
    have e9' : env 9 = .int .i64 k := by rw [e9]; congr 1; omega
    obtain ⟨env', er, f6, f8, f9, f0, f1, f5, f24, f25, f26⟩ := unpack_round0 cfg N (O := O) hw (by omega : k < 8) (by omega) e6 e8 e9'
    obtain ⟨env2, el, g6, g0, g1, g5, g24, g25, g26⟩ := ih M (bs ++ [cellOf w k]) env' (by omega) (by simp; omega) f6 f8 f9
    have ea : bs ++ [cellOf w k] ++ downC w k = bs ++ downC w (k + 1) := by simp [downC]
    rw [ea] at el g6
    refine ⟨env2, ?_, g6, by rw [g0, f0], by rw [g1, f1], by rw [g5, f5], by rw [g24, f24], by rw [g25, f25], by rw [g26, f26]⟩
    have : M + (k + 1) + 1 = (M + k + 1) + 1 := by omega
    rw [this, loop_round er]; exact el

/-- All bytes of some words. -/
def flatC : List Int → List AV
  | [] => []
  | w :: ws => downC w 8 ++ flatC ws
theorem flatC_append (a b : List Int) : flatC (a ++ b) = flatC a ++ flatC b := by
  induction a with
  | nil => rfl
  | cons w a ih => simp [flatC, ih]
theorem flatC_len (ws : List Int) : (flatC ws).length = 8 * ws.length := by
  induction ws with
  | nil => rfl
  | cons w a ih => simp [flatC, ih, downC_len]; omega

theorem unpack_round1 (cfg : Cfg) {O : Mo} {B : Ms} {bs cs : List AV} {w : Int} {d k off len cap i : Nat} {env : Env} (hw : 0 ≤ w) (hb : bs.length + 8 ≤ 1000)
    (hg : gm O B d k = some (.arr cs)) (hi : i < len) (hl : len ≤ 1000) (hc : cs[off + i]? = some (.int .u64 w))
    (e6 : env 6 = outV B bs) (e24 : env 24 = .sref d k off len cap) (e25 : env 25 = .int .i64 len) (e26 : env 26 = .int .i64 i) :
    ∃ env', exec cfg callU 200 B82x1 ⟨leOf 58 env, O, B ++ [outF bs]⟩ = some (.normal, ⟨leOf 58 env', O, B ++ [outF (bs ++ downC w 8)]⟩) ∧
      env' 6 = outV B (bs ++ downC w 8) ∧ env' 0 = env 0 ∧ env' 1 = env 1 ∧ env' 5 = env 5 ∧ env' 24 = .sref d k off len cap ∧ env' 25 = .int .i64 len ∧ env' 26 = .int .i64 ((i : Int) + 1) := by
  have hg' : ∀ F, gm O (B ++ [F]) d k = some (.arr cs) := fun F => gm_pushL hg
  obtain ⟨aft, ha, hq⟩ := skolem (H := fun env => env 6 = outV B bs ∧ env 8 = .int .u64 w ∧ env 9 = .int .i64 7)
    (P := fun env env' => loopN (exec cfg callU 200 B82x0) [] 200 ⟨leOf 58 env, O, B ++ [outF bs]⟩ = some (.exit 3, ⟨leOf 58 env', O, B ++ [outF (bs ++ downC w 8)]⟩))
    (Q := fun env env' => env' 6 = outV B (bs ++ downC w 8) ∧ env' 0 = env 0 ∧ env' 1 = env 1 ∧ env' 5 = env 5 ∧ env' 24 = env 24 ∧ env' 25 = env 25 ∧ env' 26 = env 26)
    (fun env hh => unpack_loop0 cfg 200 hw 8 191 bs env (by omega) hb hh.1 hh.2.1 hh.2.2)
    (fun env => ⟨upd env 6 (outV B (bs ++ downC w 8)), by simp [upd]⟩)
  refine ⟨?en, ?eq, ?re⟩
  case eq =>
    simp (disch := first | decide | omega) only [B82x1, RAs, RBs, RCs, RDs, REs, RFs, RGs, RHs, RIs, RJs, RKs, RLs, if_true, if_false, dec_T, dec_F, Bool.not_true, Bool.not_false, Option.map_some, ite_true, Bool.and_true, List.map_cons, List.map_nil, List.length_cons, List.length_nil, List.nil_append, List.cons_append, Nat.zero_add, Nat.add_zero, Nat.mul_one, List.set_cons_zero, List.set_cons_succ, Int.toNat_natCast, List.drop_zero, List.drop_nil, List.drop_succ_cons, List.getElem?_drop, List.append_nil, List.length_set, decide_true, Bool.and_self, Bool.true_and, List.take_succ_cons, List.take_zero, Nat.reduceLT, Nat.reduceEqDiff, Nat.reduceAdd, Nat.reduceSub, e24, e25, e26, hg', hc, e_loop]
    rw [ha _ ?hh]
    case hh => simp (disch := first | decide | omega) only [RAs, RBs, RCs, RDs, REs, RFs, RGs, RHs, RIs, RJs, RKs, RLs, if_true, if_false, dec_T, dec_F, Bool.not_true, Bool.not_false, Option.map_some, ite_true, Bool.and_true, List.map_cons, List.map_nil, List.length_cons, List.length_nil, List.nil_append, List.cons_append, Nat.zero_add, Nat.add_zero, Nat.mul_one, List.set_cons_zero, List.set_cons_succ, Int.toNat_natCast, List.drop_zero, List.drop_nil, List.drop_succ_cons, List.getElem?_drop, List.append_nil, List.length_set, decide_true, Bool.and_self, Bool.true_and, List.take_succ_cons, List.take_zero, Nat.reduceLT, Nat.reduceEqDiff, Nat.reduceAdd, Nat.reduceSub, e6, and_self]
    simp (disch := first | decide | omega) only [RAs, RBs, RCs, RDs, REs, RFs, RGs, RHs, RIs, RJs, RKs, RLs, if_true, if_false, dec_T, dec_F, Bool.not_true, Bool.not_false, Option.map_some, ite_true, Bool.and_true, List.map_cons, List.map_nil, List.length_cons, List.length_nil, List.nil_append, List.cons_append, Nat.zero_add, Nat.add_zero, Nat.mul_one, List.set_cons_zero, List.set_cons_succ, Int.toNat_natCast, List.drop_zero, List.drop_nil, List.drop_succ_cons, List.getElem?_drop, List.append_nil, List.length_set, decide_true, Bool.and_self, Bool.true_and, List.take_succ_cons, List.take_zero, Nat.reduceLT, Nat.reduceEqDiff, Nat.reduceAdd, Nat.reduceSub, fun env => (hq env).2.2.2.2.2.2, e26]
    rfl
  case re => simp (disch := first | decide | omega) only [RAs, RBs, RCs, RDs, REs, RFs, RGs, RHs, RIs, RJs, RKs, RLs, if_true, if_false, dec_T, dec_F, Bool.not_true, Bool.not_false, Option.map_some, ite_true, Bool.and_true, List.map_cons, List.map_nil, List.length_cons, List.length_nil, List.nil_append, List.cons_append, Nat.zero_add, Nat.add_zero, Nat.mul_one, List.set_cons_zero, List.set_cons_succ, Int.toNat_natCast, List.drop_zero, List.drop_nil, List.drop_succ_cons, List.getElem?_drop, List.append_nil, List.length_set, decide_true, Bool.and_self, Bool.true_and, List.take_succ_cons, List.take_zero, Nat.reduceLT, Nat.reduceEqDiff, Nat.reduceAdd, Nat.reduceSub, fun env => (hq env).1, fun env => (hq env).2.1, fun env => (hq env).2.2.1, fun env => (hq env).2.2.2.1, fun env => (hq env).2.2.2.2.1, fun env => (hq env).2.2.2.2.2.1, fun env => (hq env).2.2.2.2.2.2, e24, e25, e26, and_self]

theorem unpack_loop1 (cfg : Cfg) {O : Mo} {B : Ms} {cs : List AV} {ws : List Int} {d k off len cap : Nat} (hg : gm O B d k = some (.arr cs)) (hl : len ≤ 100) (hws : ws.length = len)
    (hc : ∀ (i : Nat) (w : Int), ws[i]? = some w → cs[off + i]? = some (AV.int .u64 w)) (h0 : ∀ w ∈ ws, 0 ≤ w) :
    ∀ (m i M : Nat) (env : Env), i + m = len → env 6 = outV B (flatC (ws.take i)) → env 24 = .sref d k off len cap → env 25 = .int .i64 len → env 26 = .int .i64 i →
    ∃ env', loopN (exec cfg callU 200 B82x1) [] (M + m + 1) ⟨leOf 58 env, O, B ++ [outF (flatC (ws.take i))]⟩ = some (.exit 1, ⟨leOf 58 env', O, B ++ [outF (flatC ws)]⟩) ∧
      (env' 6 = outV B (flatC ws) ∧ env' 0 = env 0 ∧ env' 1 = env 1 ∧ env' 5 = env 5) := by
  intro m
  induction m with
  | zero =>
    intro i M env him e6 e24 e25 e26
    have ht : ws.take i = ws := List.take_of_length_le (by omega)
    rw [ht] at e6 ⊢
    refine ⟨?en, loop_exit (?eq : _ = some (Ex.exit 1, _)), ?re⟩
    case eq =>
      simp (disch := first | decide | omega) only [B82x1, RAs, RBs, RCs, RDs, REs, RFs, RGs, RHs, RIs, RJs, RKs, RLs, if_true, if_false, dec_T, dec_F, Bool.not_true, Bool.not_false, Option.map_some, ite_true, Bool.and_true, List.map_cons, List.map_nil, List.length_cons, List.length_nil, List.nil_append, List.cons_append, Nat.zero_add, Nat.add_zero, Nat.mul_one, List.set_cons_zero, List.set_cons_succ, Int.toNat_natCast, List.drop_zero, List.drop_nil, List.drop_succ_cons, List.getElem?_drop, List.append_nil, List.length_set, decide_true, Bool.and_self, Bool.true_and, List.take_succ_cons, List.take_zero, Nat.reduceLT, Nat.reduceEqDiff, Nat.reduceAdd, Nat.reduceSub, e25, e26]
      rfl
    case re => simp (disch := first | decide | omega) only [RAs, RBs, RCs, RDs, REs, RFs, RGs, RHs, RIs, RJs, RKs, RLs, if_true, if_false, dec_T, dec_F, Bool.not_true, Bool.not_false, Option.map_some, ite_true, Bool.and_true, List.map_cons, List.map_nil, List.length_cons, List.length_nil, List.nil_append, List.cons_append, Nat.zero_add, Nat.add_zero, Nat.mul_one, List.set_cons_zero, List.set_cons_succ, Int.toNat_natCast, List.drop_zero, List.drop_nil, List.drop_succ_cons, List.getElem?_drop, List.append_nil, List.length_set, decide_true, Bool.and_self, Bool.true_and, List.take_succ_cons, List.take_zero, Nat.reduceLT, Nat.reduceEqDiff, Nat.reduceAdd, Nat.reduceSub, e6, and_self]
  | succ m ih =>
    intro i M env him e6 e24 e25 e26
    have hi : i < ws.length := by omega
    have hwi : ws[i]? = some ws[i] := List.getElem?_eq_getElem hi
    have ht : flatC (ws.take (i + 1)) = flatC (ws.take i) ++ downC ws[i] 8 := by
      rw [List.take_add_one, hwi, flatC_append]; simp [flatC]
    obtain ⟨env', er, f6, f0, f1, f5, f24, f25, f26⟩ := unpack_round1 cfg (h0 _ (List.getElem_mem hi)) (by rw [flatC_len]; simp; omega) hg (by omega : i < len) (by omega) (hc i _ hwi) e6 e24 e25 e26
    rw [← ht] at er f6
    obtain ⟨env2, el, g6, g0, g1, g5⟩ := ih (i + 1) M env' (by omega) f6 f24 f25 (by rw [f26]; rfl)
    refine ⟨env2, ?_, g6, by rw [g0, f0], by rw [g1, f1], by rw [g5, f5]⟩
    have : M + (m + 1) + 1 = (M + m + 1) + 1 := by omega
    rw [this, loop_round er]; exact el

/-! The bytes behind the string are zero -/
def isU8 : AV → Bool
  | .int .u8 _ => true
  | _ => false
theorem isU8_eq {v : AV} (h : isU8 v = true) : ∃ w, v = .int .u8 w := by
  unfold isU8 at h
  split at h
  · exact ⟨_, rfl⟩
  · cases h
def isZ : AV → Bool
  | .int .u8 n => decide (n = 0)
  | _ => false
theorem downC_u8 (w : Int) : ∀ k, (downC w k).all isU8 = true
  | 0 => rfl
  | k + 1 => by simp [downC, cellOf, isU8, downC_u8 w k]
theorem flatC_u8 (ws : List Int) : (flatC ws).all isU8 = true := by
  induction ws with
  | nil => rfl
  | cons w a ih => simp only [flatC, List.all_append, downC_u8, ih, Bool.and_self]

theorem unpack_loop2 (cfg : Cfg) (call : CallT) (N : Nat) {O : Mo} {B : Ms} {bs : List AV} (hbs : bs ≠ []) {n : Nat} (hl : bs.length ≤ 1000) (hu : bs.all isU8 = true) :
    ∀ (m i M : Nat) (env : Env), n + i + m = bs.length → env 45 = .bref (B.length + 1) 0 n (bs.length - n) bs.length → env 46 = .int .i64 ((bs.length - n : Nat) : Int) → env 47 = .int .i64 i →
    ∃ env', loopN (exec cfg call N B82x2) [] (M + m + 1) ⟨leOf 58 env, O, B ++ [outF bs]⟩ = some (if (bs.drop (n + i)).all isZ = true then .exit 5 else .ret, ⟨leOf 58 env', O, B ++ [outF bs]⟩) ∧
      (((bs.drop (n + i)).all isZ = true → env' 6 = env 6 ∧ env' 1 = env 1) ∧ ((bs.drop (n + i)).all isZ = false → env' 4 = .str [] ∧ env' 5 = .int .i64 12)) := by
  have hf : outF bs = [.buf 1 bs] := by simp [outF, hbs]
  intro m
  induction m with
  | zero =>
    intro i M env him e45 e46 e47
    have hd : bs.drop (n + i) = [] := List.drop_eq_nil_of_le (by omega)
    rw [hd]
    have hi : i = bs.length - n := by omega
    refine ⟨?en, loop_exit (?eq : _ = some (Ex.exit 5, _)), ?re⟩
    case eq =>
      simp (disch := first | decide | omega) only [B82x2, RAs, RBs, RCs, RDs, REs, RFs, RGs, RHs, RIs, RJs, RKs, RLs, if_true, if_false, dec_T, dec_F, Bool.not_true, Bool.not_false, Option.map_some, ite_true, Bool.and_true, List.map_cons, List.map_nil, List.length_cons, List.length_nil, List.nil_append, List.cons_append, Nat.zero_add, Nat.add_zero, Nat.mul_one, List.set_cons_zero, List.set_cons_succ, Int.toNat_natCast, List.drop_zero, List.drop_nil, List.drop_succ_cons, List.getElem?_drop, List.append_nil, List.length_set, decide_true, Bool.and_self, Bool.true_and, List.take_succ_cons, List.take_zero, Nat.reduceLT, Nat.reduceEqDiff, Nat.reduceAdd, Nat.reduceSub, e46, e47]
      rfl
    case re =>
      refine ⟨fun _ => ?_, fun h => by cases h⟩
      simp (disch := first | decide | omega) only [RAs, RBs, RCs, RDs, REs, RFs, RGs, RHs, RIs, RJs, RKs, RLs, if_true, if_false, dec_T, dec_F, Bool.not_true, Bool.not_false, Option.map_some, ite_true, Bool.and_true, List.map_cons, List.map_nil, List.length_cons, List.length_nil, List.nil_append, List.cons_append, Nat.zero_add, Nat.add_zero, Nat.mul_one, List.set_cons_zero, List.set_cons_succ, Int.toNat_natCast, List.drop_zero, List.drop_nil, List.drop_succ_cons, List.getElem?_drop, List.append_nil, List.length_set, decide_true, Bool.and_self, Bool.true_and, List.take_succ_cons, List.take_zero, Nat.reduceLT, Nat.reduceEqDiff, Nat.reduceAdd, Nat.reduceSub, and_self]
  | succ m ih =>
    intro i M env him e45 e46 e47
    have hni : n + i < bs.length := by omega
    have hd : bs.drop (n + i) = bs[n + i] :: bs.drop (n + (i + 1)) := List.drop_eq_getElem_cons hni
    obtain ⟨x, hx⟩ := isU8_eq (List.all_eq_true.1 hu (bs[n + i]) (List.getElem_mem hni))
    have hxi : bs[n + i]? = some (.int .u8 x) := by rw [List.getElem?_eq_getElem hni, hx]
    by_cases hx0 : x = 0
    · have hround : ∃ env', exec cfg call N B82x2 ⟨leOf 58 env, O, B ++ [outF bs]⟩ = some (.normal, ⟨leOf 58 env', O, B ++ [outF bs]⟩) ∧
          env' 45 = env 45 ∧ env' 46 = env 46 ∧ env' 47 = .int .i64 ((i : Int) + 1) ∧ env' 6 = env 6 ∧ env' 1 = env 1 := by
        rw [hf]
        refine ⟨?en2, ?eq2, ?re2⟩
        case eq2 =>
          simp (disch := first | decide | omega) only [B82x2, RAs, RBs, RCs, RDs, REs, RFs, RGs, RHs, RIs, RJs, RKs, RLs, if_true, if_false, dec_T, dec_F, Bool.not_true, Bool.not_false, Option.map_some, ite_true, Bool.and_true, List.map_cons, List.map_nil, List.length_cons, List.length_nil, List.nil_append, List.cons_append, Nat.zero_add, Nat.add_zero, Nat.mul_one, List.set_cons_zero, List.set_cons_succ, Int.toNat_natCast, List.drop_zero, List.drop_nil, List.drop_succ_cons, List.getElem?_drop, List.append_nil, List.length_set, decide_true, Bool.and_self, Bool.true_and, List.take_succ_cons, List.take_zero, Nat.reduceLT, Nat.reduceEqDiff, Nat.reduceAdd, Nat.reduceSub, e45, e46, e47, hxi, hx0]
          rfl
        case re2 => simp (disch := first | decide | omega) only [RAs, RBs, RCs, RDs, REs, RFs, RGs, RHs, RIs, RJs, RKs, RLs, if_true, if_false, dec_T, dec_F, Bool.not_true, Bool.not_false, Option.map_some, ite_true, Bool.and_true, List.map_cons, List.map_nil, List.length_cons, List.length_nil, List.nil_append, List.cons_append, Nat.zero_add, Nat.add_zero, Nat.mul_one, List.set_cons_zero, List.set_cons_succ, Int.toNat_natCast, List.drop_zero, List.drop_nil, List.drop_succ_cons, List.getElem?_drop, List.append_nil, List.length_set, decide_true, Bool.and_self, Bool.true_and, List.take_succ_cons, List.take_zero, Nat.reduceLT, Nat.reduceEqDiff, Nat.reduceAdd, Nat.reduceSub, and_self]
      obtain ⟨env', er, f45, f46, f47, f6, f1⟩ := hround
      obtain ⟨env2, el, g⟩ := ih (i + 1) M env' (by omega) (by rw [f45, e45]) (by rw [f46, e46]) (by rw [f47]; rfl)
      have hall : (bs.drop (n + i)).all isZ = (bs.drop (n + (i + 1))).all isZ := by
        rw [hd, hx, hx0]; simp [isZ]
      rw [hall]
      refine ⟨env2, ?_, fun h => ⟨by rw [(g.1 h).1, f6], by rw [(g.1 h).2, f1]⟩, g.2⟩
      have : M + (m + 1) + 1 = (M + m + 1) + 1 := by omega
      rw [this, loop_round er]; exact el
    · have hall : (bs.drop (n + i)).all isZ = false := by
        rw [hd, hx]; simp [isZ, hx0]
      rw [hall]
      have hround : ∃ env', exec cfg call N B82x2 ⟨leOf 58 env, O, B ++ [outF bs]⟩ = some (.ret, ⟨leOf 58 env', O, B ++ [outF bs]⟩) ∧ env' 4 = .str [] ∧ env' 5 = .int .i64 12 := by
        rw [hf]
        refine ⟨?en3, ?eq3, ?re3⟩
        case eq3 =>
          simp (disch := first | decide | omega) only [B82x2, RAs, RBs, RCs, RDs, REs, RFs, RGs, RHs, RIs, RJs, RKs, RLs, if_true, if_false, dec_T, dec_F, Bool.not_true, Bool.not_false, Option.map_some, ite_true, Bool.and_true, List.map_cons, List.map_nil, List.length_cons, List.length_nil, List.nil_append, List.cons_append, Nat.zero_add, Nat.add_zero, Nat.mul_one, List.set_cons_zero, List.set_cons_succ, Int.toNat_natCast, List.drop_zero, List.drop_nil, List.drop_succ_cons, List.getElem?_drop, List.append_nil, List.length_set, decide_true, Bool.and_self, Bool.true_and, List.take_succ_cons, List.take_zero, Nat.reduceLT, Nat.reduceEqDiff, Nat.reduceAdd, Nat.reduceSub, e45, e46, e47, hxi]
          rfl
        case re3 => simp (disch := first | decide | omega) only [RAs, RBs, RCs, RDs, REs, RFs, RGs, RHs, RIs, RJs, RKs, RLs, if_true, if_false, dec_T, dec_F, Bool.not_true, Bool.not_false, Option.map_some, ite_true, Bool.and_true, List.map_cons, List.map_nil, List.length_cons, List.length_nil, List.nil_append, List.cons_append, Nat.zero_add, Nat.add_zero, Nat.mul_one, List.set_cons_zero, List.set_cons_succ, Int.toNat_natCast, List.drop_zero, List.drop_nil, List.drop_succ_cons, List.getElem?_drop, List.append_nil, List.length_set, decide_true, Bool.and_self, Bool.true_and, List.take_succ_cons, List.take_zero, Nat.reduceLT, Nat.reduceEqDiff, Nat.reduceAdd, Nat.reduceSub, and_self]
      obtain ⟨env', er, f4, f5⟩ := hround
      refine ⟨env', ?_, ⟨fun h => ?_, fun _ => ⟨f4, f5⟩⟩⟩
      · exact loop_ret er
      · cases h

def u64s : List AV → Option (List Int)
  | [] => some []
  | .int .u64 w :: r => if 0 ≤ w then (u64s r).map (w :: ·) else none
  | _ :: _ => none
theorem u64s_spec : ∀ (l : List AV) (ws : List Int), u64s l = some ws → ws.length = l.length ∧ (∀ (i : Nat) (w : Int), ws[i]? = some w → l[i]? = some (AV.int .u64 w)) ∧ ∀ w ∈ ws, 0 ≤ w
  | [], ws, h => by
    simp only [u64s, Option.some.injEq] at h; subst h; simp
  | v :: r, ws, h => by
    by_cases hv : ∃ w, v = .int .u64 w
    · obtain ⟨w, rfl⟩ := hv
      simp only [u64s] at h
      split at h
      · rename_i hw
        cases hr : u64s r with
        | none => rw [hr] at h; cases h
        | some ws' =>
          rw [hr] at h
          simp only [Option.map_some, Option.some.injEq] at h
          subst h
          obtain ⟨h1, h2, h3⟩ := u64s_spec r ws' hr
          refine ⟨by simp [h1], fun i w' hi => ?_, fun w' hw' => ?_⟩
          · cases i with
            | zero => simp only [List.getElem?_cons_zero, Option.some.injEq] at hi; subst hi; rfl
            | succ i => simp only [List.getElem?_cons_succ] at hi ⊢; exact h2 i w' hi
          · rcases List.mem_cons.1 hw' with e | e
            · subst e; exact hw
            · exact h3 w' e
      · cases h
    · exfalso
      cases v with
      | int k w => cases k <;> first | exact hv ⟨w, rfl⟩ | (simp [u64s] at h)
      | _ => simp [u64s] at h

/-- What Unpack says of some words. -/
def unpackB (bs : List AV) (n : Nat) : Option (List UInt8 × Int) :=
  if (bs.drop n).all isZ = true then (bytesOf (bs.take n)).map (·, 0) else some ([], 12)
def unpackA (ws : List Int) (n : Nat) : Option (List UInt8 × Int) := unpackB (flatC ws) n
def unpackP (args : List AV) (O : Mo) (S : Ms) : Ans :=
  match args with
  | [.sref d k off len _, .int .i64 n] =>
    if n < 0 then (if -1000000 ≤ n then some (.tup [.str [], .int .i64 2], O, S) else none)
    else if 40 < n then (if n ≤ 1000000 then some (.tup [.str [], .int .i64 5], O, S) else none)
    else if (len : Int) ≠ wordsI n then (if len ≤ 1000000 then some (.tup [.str [], .int .i64 12], O, S) else none)
    else match gm O S d k with
      | some (.arr cs) => match u64s ((cs.drop off).take len) with
        | some ws => if ws.length = len then match unpackA ws n.toNat with
          | some (s, e) => some (.tup [.str s, .int .i64 e], O, S)
          | none => none
          else none
        | none => none
      | _ => none
  | _ => none
theorem cvs_out {O : Mo} {B : Ms} {bs : List AV} (hbs : bs ≠ []) {n : Nat} (hn : n ≤ bs.length) : cvsC O (B ++ [outF bs]) (.bref (B.length + 1) 0 0 n bs.length) = (bytesOf (bs.take n)).map .str := by
  simp [cvsC, conts, gm_top, outF, hbs, hn]

theorem run82 {O : Mo} {B : Ms} {d k off len cap : Nat} {nn : Nat} {cs : List AV} {ws : List Int} (hn : nn ≤ 40) (hlw : (len : Int) = wordsI nn)
    (hg : gm O B d k = some (.arr cs)) (hu : u64s ((cs.drop off).take len) = some ws) (hws : ws.length = len) {s : List UInt8} {e : Int} (ha : unpackA ws nn = some (s, e)) :
    fin false F82 (exec cfgA callU 200 F82.body (enter F82 [.sref d k off len cap, .int .i64 nn] O B)) = some (.tup [.str s, .int .i64 e], O, B) := by
  have hlen : len ≤ 5 := by unfold wordsI at hlw; split at hlw <;> omega
  obtain ⟨_, h2, h3⟩ := u64s_spec _ _ hu
  have hc : ∀ (i : Nat) (w : Int), ws[i]? = some w → cs[off + i]? = some (AV.int .u64 w) := fun i w hi => by
    have hil : i < len := by rw [← hws]; exact (List.getElem?_eq_some_iff.1 hi).1
    have := h2 i w hi
    rw [List.getElem?_take, if_pos hil, List.getElem?_drop] at this
    exact this
  have h81 : ∀ F, callU 81 [.int .i64 nn] O (B ++ [F]) = some (.int .i64 len, O, B ++ [F]) := fun F => by
    have : (-1000000 : Int) ≤ nn ∧ (nn : Int) ≤ 1000000 := ⟨by omega, by omega⟩
    simp only [callU, wordsP, this, and_self, if_true, hlw]
  obtain ⟨aft1, ha1, hq1⟩ := skolem (H := fun env => env 6 = outV B [] ∧ env 24 = .sref d k off len cap ∧ env 25 = .int .i64 len ∧ env 26 = .int .i64 0)
    (P := fun env env' => loopN (exec cfgA callU 200 B82x1) [] 200 ⟨leOf 58 env, O, B ++ [[]]⟩ = some (.exit 1, ⟨leOf 58 env', O, B ++ [outF (flatC ws)]⟩))
    (Q := fun env env' => env' 6 = outV B (flatC ws) ∧ env' 0 = env 0 ∧ env' 1 = env 1 ∧ env' 5 = env 5)
    (fun env hh => by
      have hM : 199 - len + len + 1 = 200 := by omega
      have := unpack_loop1 cfgA (O := O) hg (by omega : len ≤ 100) hws hc h3 len 0 (199 - len) env (by omega) hh.1 hh.2.1 hh.2.2.1 hh.2.2.2
      rw [hM] at this; exact this)
    (fun env => ⟨upd env 6 (outV B (flatC ws)), by simp [upd]⟩)
  have hfl : (flatC ws).length = 8 * len := by rw [flatC_len, hws]
  unfold unpackA at ha
  by_cases hb : flatC ws = []
  · -- no words
    have hl0 : len = 0 := by rw [hb] at hfl; simp at hfl; omega
    have hn0 : nn = 0 := by unfold wordsI at hlw; split at hlw <;> omega
    subst hl0 hn0
    have hse : s = [] ∧ e = 0 := by
      simp only [unpackB, hb, List.drop_nil, List.all_nil, if_true, List.take_nil, bytesOf, Option.map_some, Option.some.injEq, Prod.mk.injEq] at ha
      exact ⟨ha.1.symm, ha.2.symm⟩
    obtain ⟨rfl, rfl⟩ := hse
    rw [hb] at ha1 hq1
    have hout : outV B [] = .nils := rfl
    have e0 : ((0 : Nat) : Int) = 0 := rfl
    simp (disch := first | decide | omega) only [F82, RAs, RBs, RCs, RDs, REs, RFs, RGs, RHs, RIs, RJs, RKs, RLs, if_true, if_false, dec_T, dec_F, Bool.not_true, Bool.not_false, Option.map_some, ite_true, Bool.and_true, List.map_cons, List.map_nil, List.length_cons, List.length_nil, List.nil_append, List.cons_append, Nat.zero_add, Nat.add_zero, Nat.mul_one, List.set_cons_zero, List.set_cons_succ, Int.toNat_natCast, List.drop_zero, List.drop_nil, List.drop_succ_cons, List.getElem?_drop, List.append_nil, List.length_set, decide_true, Bool.and_self, Bool.true_and, List.take_succ_cons, List.take_zero, Nat.reduceLT, Nat.reduceEqDiff, Nat.reduceAdd, Nat.reduceSub, h81, e_loop]
    rw [ha1 _ ?hh]
    case hh => simp (disch := first | decide | omega) only [RAs, RBs, RCs, RDs, REs, RFs, RGs, RHs, RIs, RJs, RKs, RLs, if_true, if_false, dec_T, dec_F, Bool.not_true, Bool.not_false, Option.map_some, ite_true, Bool.and_true, List.map_cons, List.map_nil, List.length_cons, List.length_nil, List.nil_append, List.cons_append, Nat.zero_add, Nat.add_zero, Nat.mul_one, List.set_cons_zero, List.set_cons_succ, Int.toNat_natCast, List.drop_zero, List.drop_nil, List.drop_succ_cons, List.getElem?_drop, List.append_nil, List.length_set, decide_true, Bool.and_self, Bool.true_and, List.take_succ_cons, List.take_zero, Nat.reduceLT, Nat.reduceEqDiff, Nat.reduceAdd, Nat.reduceSub, and_self, hout]
    have hcv : cvsC O (B ++ [[]]) .nils = some (.str []) := rfl
    simp (disch := first | decide | omega) only [RAs, RBs, RCs, RDs, REs, RFs, RGs, RHs, RIs, RJs, RKs, RLs, if_true, if_false, dec_T, dec_F, Bool.not_true, Bool.not_false, Option.map_some, ite_true, Bool.and_true, List.map_cons, List.map_nil, List.length_cons, List.length_nil, List.nil_append, List.cons_append, Nat.zero_add, Nat.add_zero, Nat.mul_one, List.set_cons_zero, List.set_cons_succ, Int.toNat_natCast, List.drop_zero, List.drop_nil, List.drop_succ_cons, List.getElem?_drop, List.append_nil, List.length_set, decide_true, Bool.and_self, Bool.true_and, List.take_succ_cons, List.take_zero, Nat.reduceLT, Nat.reduceEqDiff, Nat.reduceAdd, Nat.reduceSub, fun env => (hq1 env).1, fun env => (hq1 env).2.1, fun env => (hq1 env).2.2.1, fun env => (hq1 env).2.2.2, hout, outF_nil, s_nils, bounds_eq, bnd_some, bnd_none, bndC_P, s_nilsS, e_loop, hcv]
    obtain ⟨aft2, ha2, hq2⟩ := skolem (H := fun env => env 46 = .int .i64 0 ∧ env 47 = .int .i64 0)
      (P := fun env env' => loopN (exec cfgA callU 200 B82x2) [] 200 ⟨leOf 58 env, O, B ++ [[]]⟩ = some (.exit 5, ⟨leOf 58 env', O, B ++ [[]]⟩))
      (Q := fun env env' => env' 6 = env 6 ∧ env' 1 = env 1)
      (fun env hh => by
        obtain ⟨h46, h47⟩ := hh
        refine ⟨?en, loop_exit (?eq : _ = some (Ex.exit 5, _)), ?re⟩
        case eq =>
          simp (disch := first | decide | omega) only [B82x2, RAs, RBs, RCs, RDs, REs, RFs, RGs, RHs, RIs, RJs, RKs, RLs, if_true, if_false, dec_T, dec_F, Bool.not_true, Bool.not_false, Option.map_some, ite_true, Bool.and_true, List.map_cons, List.map_nil, List.length_cons, List.length_nil, List.nil_append, List.cons_append, Nat.zero_add, Nat.add_zero, Nat.mul_one, List.set_cons_zero, List.set_cons_succ, Int.toNat_natCast, List.drop_zero, List.drop_nil, List.drop_succ_cons, List.getElem?_drop, List.append_nil, List.length_set, decide_true, Bool.and_self, Bool.true_and, List.take_succ_cons, List.take_zero, Nat.reduceLT, Nat.reduceEqDiff, Nat.reduceAdd, Nat.reduceSub, h46, h47]
          rfl
        case re => simp (disch := first | decide | omega) only [RAs, RBs, RCs, RDs, REs, RFs, RGs, RHs, RIs, RJs, RKs, RLs, if_true, if_false, dec_T, dec_F, Bool.not_true, Bool.not_false, Option.map_some, ite_true, Bool.and_true, List.map_cons, List.map_nil, List.length_cons, List.length_nil, List.nil_append, List.cons_append, Nat.zero_add, Nat.add_zero, Nat.mul_one, List.set_cons_zero, List.set_cons_succ, Int.toNat_natCast, List.drop_zero, List.drop_nil, List.drop_succ_cons, List.getElem?_drop, List.append_nil, List.length_set, decide_true, Bool.and_self, Bool.true_and, List.take_succ_cons, List.take_zero, Nat.reduceLT, Nat.reduceEqDiff, Nat.reduceAdd, Nat.reduceSub, and_self])
      (fun env => ⟨env, by simp⟩)
    rw [ha2 _ ?hh2]
    case hh2 => simp (disch := first | decide | omega) only [RAs, RBs, RCs, RDs, REs, RFs, RGs, RHs, RIs, RJs, RKs, RLs, if_true, if_false, dec_T, dec_F, Bool.not_true, Bool.not_false, Option.map_some, ite_true, Bool.and_true, List.map_cons, List.map_nil, List.length_cons, List.length_nil, List.nil_append, List.cons_append, Nat.zero_add, Nat.add_zero, Nat.mul_one, List.set_cons_zero, List.set_cons_succ, Int.toNat_natCast, List.drop_zero, List.drop_nil, List.drop_succ_cons, List.getElem?_drop, List.append_nil, List.length_set, decide_true, Bool.and_self, Bool.true_and, List.take_succ_cons, List.take_zero, Nat.reduceLT, Nat.reduceEqDiff, Nat.reduceAdd, Nat.reduceSub, and_self, e0]
    simp (disch := first | decide | omega) only [RAs, RBs, RCs, RDs, REs, RFs, RGs, RHs, RIs, RJs, RKs, RLs, if_true, if_false, dec_T, dec_F, Bool.not_true, Bool.not_false, Option.map_some, ite_true, Bool.and_true, List.map_cons, List.map_nil, List.length_cons, List.length_nil, List.nil_append, List.cons_append, Nat.zero_add, Nat.add_zero, Nat.mul_one, List.set_cons_zero, List.set_cons_succ, Int.toNat_natCast, List.drop_zero, List.drop_nil, List.drop_succ_cons, List.getElem?_drop, List.append_nil, List.length_set, decide_true, Bool.and_self, Bool.true_and, List.take_succ_cons, List.take_zero, Nat.reduceLT, Nat.reduceEqDiff, Nat.reduceAdd, Nat.reduceSub, fun env => (hq1 env).1, fun env => (hq1 env).2.1, fun env => (hq1 env).2.2.1, fun env => (hq1 env).2.2.2, fun env => (hq2 env).1, fun env => (hq2 env).2, hout, outF_nil, s_nils, bounds_eq, bnd_some, bnd_none, bndC_P, s_nilsS, e_loop, hcv]
  · -- some
    have hnl : nn ≤ (flatC ws).length := by rw [hfl]; unfold wordsI at hlw; split at hlw <;> omega
    have hu8 := flatC_u8 ws
    have hfl2 : (flatC ws).length ≤ 40 := by omega
    generalize flatC ws = bs at *
    have hnat : ((nn : Nat) : Int).toNat = nn := rfl
    have hm : 199 - (bs.length - nn) + (bs.length - nn) + 1 = 200 := by omega
    have hn0 : nn + 0 = nn := rfl
    by_cases hz : (bs.drop nn).all isZ = true
    · obtain ⟨hby, rfl⟩ : bytesOf (bs.take nn) = some s ∧ e = 0 := by
        simp only [unpackB, hz, if_true] at ha
        cases hb2 : bytesOf (bs.take nn) with
        | none => rw [hb2] at ha; cases ha
        | some s' =>
          rw [hb2] at ha
          simp only [Option.map_some, Option.some.injEq, Prod.mk.injEq] at ha
          exact ⟨by rw [ha.1], ha.2.symm⟩
      obtain ⟨aft2, ha2, hq2⟩ := skolem (H := fun env => env 45 = .bref (B.length + 1) 0 nn (bs.length - nn) bs.length ∧ env 46 = .int .i64 ((bs.length - nn : Nat) : Int) ∧ env 47 = .int .i64 0)
        (P := fun env env' => loopN (exec cfgA callU 200 B82x2) [] 200 ⟨leOf 58 env, O, B ++ [outF bs]⟩ = some (.exit 5, ⟨leOf 58 env', O, B ++ [outF bs]⟩))
        (Q := fun env env' => env' 6 = env 6 ∧ env' 1 = env 1)
        (fun env hh => by
          obtain ⟨env', h1, h2, _⟩ := unpack_loop2 cfgA callU 200 (O := O) (B := B) hb (n := nn) (by omega) hu8 (bs.length - nn) 0 (199 - (bs.length - nn)) env (by omega) hh.1 hh.2.1 hh.2.2
          rw [hm, hn0, if_pos hz] at h1
          exact ⟨env', h1, h2 hz⟩)
        (fun env => ⟨env, by simp⟩)
      simp (disch := first | decide | omega) only [F82, RAs, RBs, RCs, RDs, REs, RFs, RGs, RHs, RIs, RJs, RKs, RLs, if_true, if_false, dec_T, dec_F, Bool.not_true, Bool.not_false, Option.map_some, ite_true, Bool.and_true, List.map_cons, List.map_nil, List.length_cons, List.length_nil, List.nil_append, List.cons_append, Nat.zero_add, Nat.add_zero, Nat.mul_one, List.set_cons_zero, List.set_cons_succ, Int.toNat_natCast, List.drop_zero, List.drop_nil, List.drop_succ_cons, List.getElem?_drop, List.append_nil, List.length_set, decide_true, Bool.and_self, Bool.true_and, List.take_succ_cons, List.take_zero, Nat.reduceLT, Nat.reduceEqDiff, Nat.reduceAdd, Nat.reduceSub, h81, e_loop]
      rw [ha1 _ ?hh]
      case hh => simp (disch := first | decide | omega) only [RAs, RBs, RCs, RDs, REs, RFs, RGs, RHs, RIs, RJs, RKs, RLs, if_true, if_false, dec_T, dec_F, Bool.not_true, Bool.not_false, Option.map_some, ite_true, Bool.and_true, List.map_cons, List.map_nil, List.length_cons, List.length_nil, List.nil_append, List.cons_append, Nat.zero_add, Nat.add_zero, Nat.mul_one, List.set_cons_zero, List.set_cons_succ, Int.toNat_natCast, List.drop_zero, List.drop_nil, List.drop_succ_cons, List.getElem?_drop, List.append_nil, List.length_set, decide_true, Bool.and_self, Bool.true_and, List.take_succ_cons, List.take_zero, Nat.reduceLT, Nat.reduceEqDiff, Nat.reduceAdd, Nat.reduceSub, and_self, outV_nil]
      simp (disch := first | decide | omega) only [RAs, RBs, RCs, RDs, REs, RFs, RGs, RHs, RIs, RJs, RKs, RLs, if_true, if_false, dec_T, dec_F, Bool.not_true, Bool.not_false, Option.map_some, ite_true, Bool.and_true, List.map_cons, List.map_nil, List.length_cons, List.length_nil, List.nil_append, List.cons_append, Nat.zero_add, Nat.add_zero, Nat.mul_one, List.set_cons_zero, List.set_cons_succ, Int.toNat_natCast, List.drop_zero, List.drop_nil, List.drop_succ_cons, List.getElem?_drop, List.append_nil, List.length_set, decide_true, Bool.and_self, Bool.true_and, List.take_succ_cons, List.take_zero, Nat.reduceLT, Nat.reduceEqDiff, Nat.reduceAdd, Nat.reduceSub, fun env => (hq1 env).1, fun env => (hq1 env).2.1, fun env => (hq1 env).2.2.1, fun env => (hq1 env).2.2.2, slcA_out _ _ _ _ hb, s_brefS, bounds_eq, bnd_some, bnd_none, bndC_P, e_loop, hnat]
      rw [ha2 _ ?hh2]
      case hh2 => simp (disch := first | decide | omega) only [RAs, RBs, RCs, RDs, REs, RFs, RGs, RHs, RIs, RJs, RKs, RLs, if_true, if_false, dec_T, dec_F, Bool.not_true, Bool.not_false, Option.map_some, ite_true, Bool.and_true, List.map_cons, List.map_nil, List.length_cons, List.length_nil, List.nil_append, List.cons_append, Nat.zero_add, Nat.add_zero, Nat.mul_one, List.set_cons_zero, List.set_cons_succ, Int.toNat_natCast, List.drop_zero, List.drop_nil, List.drop_succ_cons, List.getElem?_drop, List.append_nil, List.length_set, decide_true, Bool.and_self, Bool.true_and, List.take_succ_cons, List.take_zero, Nat.reduceLT, Nat.reduceEqDiff, Nat.reduceAdd, Nat.reduceSub, and_self]
      simp (disch := first | decide | omega) only [RAs, RBs, RCs, RDs, REs, RFs, RGs, RHs, RIs, RJs, RKs, RLs, if_true, if_false, dec_T, dec_F, Bool.not_true, Bool.not_false, Option.map_some, ite_true, Bool.and_true, List.map_cons, List.map_nil, List.length_cons, List.length_nil, List.nil_append, List.cons_append, Nat.zero_add, Nat.add_zero, Nat.mul_one, List.set_cons_zero, List.set_cons_succ, Int.toNat_natCast, List.drop_zero, List.drop_nil, List.drop_succ_cons, List.getElem?_drop, List.append_nil, List.length_set, decide_true, Bool.and_self, Bool.true_and, List.take_succ_cons, List.take_zero, Nat.reduceLT, Nat.reduceEqDiff, Nat.reduceAdd, Nat.reduceSub, fun env => (hq1 env).1, fun env => (hq1 env).2.1, fun env => (hq1 env).2.2.1, fun env => (hq1 env).2.2.2, fun env => (hq2 env).1, fun env => (hq2 env).2, slcA_out _ _ _ _ hb, s_brefS, bounds_eq, bnd_some, bnd_none, bndC_P, e_loop, hnat, Nat.sub_zero, Nat.zero_mul, cvs_out hb hnl, hby]
    · obtain ⟨rfl, rfl⟩ : s = [] ∧ e = 12 := by
        simp only [unpackB, hz] at ha
        simp at ha
        exact ⟨ha.1, ha.2.symm⟩
      have hz' : (bs.drop nn).all isZ = false := by simpa using hz
      obtain ⟨aft2, ha2, hq2⟩ := skolem (H := fun env => env 45 = .bref (B.length + 1) 0 nn (bs.length - nn) bs.length ∧ env 46 = .int .i64 ((bs.length - nn : Nat) : Int) ∧ env 47 = .int .i64 0)
        (P := fun env env' => loopN (exec cfgA callU 200 B82x2) [] 200 ⟨leOf 58 env, O, B ++ [outF bs]⟩ = some (.ret, ⟨leOf 58 env', O, B ++ [outF bs]⟩))
        (Q := fun _ env' => env' 4 = .str [] ∧ env' 5 = .int .i64 12)
        (fun env hh => by
          obtain ⟨env', h1, _, h2⟩ := unpack_loop2 cfgA callU 200 (O := O) (B := B) hb (n := nn) (by omega) hu8 (bs.length - nn) 0 (199 - (bs.length - nn)) env (by omega) hh.1 hh.2.1 hh.2.2
          rw [hm, hn0, if_neg (by rw [hz']; exact Bool.false_ne_true)] at h1
          exact ⟨env', h1, h2 hz'⟩)
        (fun env => ⟨upd (upd env 4 (.str [])) 5 (.int .i64 12), by simp [upd]⟩)
      simp (disch := first | decide | omega) only [F82, RAs, RBs, RCs, RDs, REs, RFs, RGs, RHs, RIs, RJs, RKs, RLs, if_true, if_false, dec_T, dec_F, Bool.not_true, Bool.not_false, Option.map_some, ite_true, Bool.and_true, List.map_cons, List.map_nil, List.length_cons, List.length_nil, List.nil_append, List.cons_append, Nat.zero_add, Nat.add_zero, Nat.mul_one, List.set_cons_zero, List.set_cons_succ, Int.toNat_natCast, List.drop_zero, List.drop_nil, List.drop_succ_cons, List.getElem?_drop, List.append_nil, List.length_set, decide_true, Bool.and_self, Bool.true_and, List.take_succ_cons, List.take_zero, Nat.reduceLT, Nat.reduceEqDiff, Nat.reduceAdd, Nat.reduceSub, h81, e_loop]
      rw [ha1 _ ?hh]
      case hh => simp (disch := first | decide | omega) only [RAs, RBs, RCs, RDs, REs, RFs, RGs, RHs, RIs, RJs, RKs, RLs, if_true, if_false, dec_T, dec_F, Bool.not_true, Bool.not_false, Option.map_some, ite_true, Bool.and_true, List.map_cons, List.map_nil, List.length_cons, List.length_nil, List.nil_append, List.cons_append, Nat.zero_add, Nat.add_zero, Nat.mul_one, List.set_cons_zero, List.set_cons_succ, Int.toNat_natCast, List.drop_zero, List.drop_nil, List.drop_succ_cons, List.getElem?_drop, List.append_nil, List.length_set, decide_true, Bool.and_self, Bool.true_and, List.take_succ_cons, List.take_zero, Nat.reduceLT, Nat.reduceEqDiff, Nat.reduceAdd, Nat.reduceSub, and_self, outV_nil]
      simp (disch := first | decide | omega) only [RAs, RBs, RCs, RDs, REs, RFs, RGs, RHs, RIs, RJs, RKs, RLs, if_true, if_false, dec_T, dec_F, Bool.not_true, Bool.not_false, Option.map_some, ite_true, Bool.and_true, List.map_cons, List.map_nil, List.length_cons, List.length_nil, List.nil_append, List.cons_append, Nat.zero_add, Nat.add_zero, Nat.mul_one, List.set_cons_zero, List.set_cons_succ, Int.toNat_natCast, List.drop_zero, List.drop_nil, List.drop_succ_cons, List.getElem?_drop, List.append_nil, List.length_set, decide_true, Bool.and_self, Bool.true_and, List.take_succ_cons, List.take_zero, Nat.reduceLT, Nat.reduceEqDiff, Nat.reduceAdd, Nat.reduceSub, fun env => (hq1 env).1, fun env => (hq1 env).2.1, fun env => (hq1 env).2.2.1, fun env => (hq1 env).2.2.2, slcA_out _ _ _ _ hb, s_brefS, bounds_eq, bnd_some, bnd_none, bndC_P, e_loop, hnat]
      rw [ha2 _ ?hh2]
      case hh2 => simp (disch := first | decide | omega) only [RAs, RBs, RCs, RDs, REs, RFs, RGs, RHs, RIs, RJs, RKs, RLs, if_true, if_false, dec_T, dec_F, Bool.not_true, Bool.not_false, Option.map_some, ite_true, Bool.and_true, List.map_cons, List.map_nil, List.length_cons, List.length_nil, List.nil_append, List.cons_append, Nat.zero_add, Nat.add_zero, Nat.mul_one, List.set_cons_zero, List.set_cons_succ, Int.toNat_natCast, List.drop_zero, List.drop_nil, List.drop_succ_cons, List.getElem?_drop, List.append_nil, List.length_set, decide_true, Bool.and_self, Bool.true_and, List.take_succ_cons, List.take_zero, Nat.reduceLT, Nat.reduceEqDiff, Nat.reduceAdd, Nat.reduceSub, and_self]
      simp (disch := first | decide | omega) only [RAs, RBs, RCs, RDs, REs, RFs, RGs, RHs, RIs, RJs, RKs, RLs, if_true, if_false, dec_T, dec_F, Bool.not_true, Bool.not_false, Option.map_some, ite_true, Bool.and_true, List.map_cons, List.map_nil, List.length_cons, List.length_nil, List.nil_append, List.cons_append, Nat.zero_add, Nat.add_zero, Nat.mul_one, List.set_cons_zero, List.set_cons_succ, Int.toNat_natCast, List.drop_zero, List.drop_nil, List.drop_succ_cons, List.getElem?_drop, List.append_nil, List.length_set, decide_true, Bool.and_self, Bool.true_and, List.take_succ_cons, List.take_zero, Nat.reduceLT, Nat.reduceEqDiff, Nat.reduceAdd, Nat.reduceSub, fun env => (hq2 env).1, fun env => (hq2 env).2]
theorem unpack_ok {args O S r O' S'} (h : unpackP args O S = some (r, O', S')) : CallOk Try.prog 82 args O S r O' S' := by
  unfold unpackP at h
  split at h
  · rename_i d k off len cap n
    split at h
    · split at h
      · simp only [Option.some.injEq, Prod.mk.injEq] at h
        obtain ⟨rfl, rfl, rfl⟩ := h
        refine bodyT callU_ok (n := 0) F82_code ?_
        simp (disch := first | decide | omega) only [F82, RAs, RBs, RCs, RDs, REs, RFs, RGs, RHs, RIs, RJs, RKs, RLs, if_true, if_false, dec_T, dec_F, Bool.not_true, Bool.not_false, Option.map_some, ite_true, Bool.and_true, List.map_cons, List.map_nil, List.length_cons, List.length_nil, List.nil_append, List.cons_append, Nat.zero_add, Nat.add_zero, Nat.mul_one, List.set_cons_zero, List.set_cons_succ, Int.toNat_natCast, List.drop_zero, List.drop_nil, List.drop_succ_cons, List.getElem?_drop, List.append_nil, List.length_set, decide_true, Bool.and_self, Bool.true_and, List.take_succ_cons, List.take_zero, Nat.reduceLT, Nat.reduceEqDiff, Nat.reduceAdd, Nat.reduceSub]
      · cases h
    · split at h
      · split at h
        · simp only [Option.some.injEq, Prod.mk.injEq] at h
          obtain ⟨rfl, rfl, rfl⟩ := h
          refine bodyT callU_ok (n := 0) F82_code ?_
          simp (disch := first | decide | omega) only [F82, RAs, RBs, RCs, RDs, REs, RFs, RGs, RHs, RIs, RJs, RKs, RLs, if_true, if_false, dec_T, dec_F, Bool.not_true, Bool.not_false, Option.map_some, ite_true, Bool.and_true, List.map_cons, List.map_nil, List.length_cons, List.length_nil, List.nil_append, List.cons_append, Nat.zero_add, Nat.add_zero, Nat.mul_one, List.set_cons_zero, List.set_cons_succ, Int.toNat_natCast, List.drop_zero, List.drop_nil, List.drop_succ_cons, List.getElem?_drop, List.append_nil, List.length_set, decide_true, Bool.and_self, Bool.true_and, List.take_succ_cons, List.take_zero, Nat.reduceLT, Nat.reduceEqDiff, Nat.reduceAdd, Nat.reduceSub]
        · cases h
      · split at h
        · rename_i hne
          split at h
          · simp only [Option.some.injEq, Prod.mk.injEq] at h
            obtain ⟨rfl, rfl, rfl⟩ := h
            have h81 : ∀ F, callU 81 [.int .i64 n] O (S ++ [F]) = some (.int .i64 (wordsI n), O, S ++ [F]) := fun F => by
              have : (-1000000 : Int) ≤ n ∧ n ≤ 1000000 := ⟨by omega, by omega⟩
              simp only [callU, wordsP, this, and_self, if_true]
            refine bodyT callU_ok (n := 0) F82_code ?_
            simp (disch := first | decide | omega) only [F82, RAs, RBs, RCs, RDs, REs, RFs, RGs, RHs, RIs, RJs, RKs, RLs, if_true, if_false, dec_T, dec_F, Bool.not_true, Bool.not_false, Option.map_some, ite_true, Bool.and_true, List.map_cons, List.map_nil, List.length_cons, List.length_nil, List.nil_append, List.cons_append, Nat.zero_add, Nat.add_zero, Nat.mul_one, List.set_cons_zero, List.set_cons_succ, Int.toNat_natCast, List.drop_zero, List.drop_nil, List.drop_succ_cons, List.getElem?_drop, List.append_nil, List.length_set, decide_true, Bool.and_self, Bool.true_and, List.take_succ_cons, List.take_zero, Nat.reduceLT, Nat.reduceEqDiff, Nat.reduceAdd, Nat.reduceSub, h81]
          · cases h
        · rename_i hlw
          split at h
          · rename_i cs hg
            split at h
            · rename_i ws hu
              split at h
              · rename_i hws
                split at h
                · rename_i s e ha
                  simp only [Option.some.injEq, Prod.mk.injEq] at h
                  obtain ⟨rfl, rfl, rfl⟩ := h
                  obtain ⟨nn, rfl⟩ : ∃ nn : Nat, n = nn := ⟨n.toNat, by omega⟩
                  exact bodyT callU_ok (n := 200) F82_code (run82 (by omega) (by simpa using hlw) hg hu hws ha)
                · cases h
              · cases h
            · cases h
          · cases h
  · cases h
end Den.U

/- The functions of the first seat that are taken by what they answer. -/
set_option maxRecDepth 1000000
namespace Den.U
open Go Go.Proofs

abbrev Prm := List AV → List ABlk → List (List ABlk) → Ans
noncomputable def primK (f : FuncId) : Option Prm :=
  bif Nat.beq f 90 then some cmpP else bif Nat.beq f 54 then some getP else bif Nat.beq f 39 then some readP else bif Nat.beq f 82 then some unpackP else bif Nat.beq f 81 then some wordsP else none
theorem primK_ok : ∀ f p, primK f = some p → ∀ args O S r O' S', p args O S = some (r, O', S') → CallOk Try.prog f args O S r O' S' := by
  intro f p h args O S r O' S' hp
  unfold primK at h
  cases h1 : Nat.beq f 90 with
  | true => simp only [h1, cond_true, Option.some.injEq] at h; subst h; rw [Nat.eq_of_beq_eq_true h1]; exact cmp_ok hp
  | false =>
    cases h2 : Nat.beq f 54 with
    | true => simp only [h1, h2, cond_true, cond_false, Option.some.injEq] at h; subst h; rw [Nat.eq_of_beq_eq_true h2]; exact get_ok hp
    | false =>
      cases h3 : Nat.beq f 39 with
      | true => simp only [h1, h2, h3, cond_true, cond_false, Option.some.injEq] at h; subst h; rw [Nat.eq_of_beq_eq_true h3]; exact read_ok hp
      | false =>
        cases h4 : Nat.beq f 82 with
        | true => simp only [h1, h2, h3, h4, cond_true, cond_false, Option.some.injEq] at h; subst h; rw [Nat.eq_of_beq_eq_true h4]; exact unpack_ok hp
        | false =>
          cases h5 : Nat.beq f 81 with
          | true => simp only [h1, h2, h3, h4, h5, cond_true, cond_false, Option.some.injEq] at h; subst h; rw [Nat.eq_of_beq_eq_true h5]; exact words_ok hp
          | false => simp only [h1, h2, h3, h4, h5, cond_false] at h; cases h
end Den.U
