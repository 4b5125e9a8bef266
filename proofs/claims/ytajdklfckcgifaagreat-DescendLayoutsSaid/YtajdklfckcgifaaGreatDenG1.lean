/- Rules by which 'simp' goes through a function's code with values that are not known: nothing stands under a binder, so that each step is one rewriting at the head. -/
import Derived.Test.YtajdklfckcgifaaGreatDenFb
set_option linter.unusedSectionVars false
set_option linter.unusedVariables false
set_option linter.unusedSimpArgs false
set_option linter.defProp false
set_option linter.unusedVariables false
set_option linter.unusedSimpArgs false
namespace Den
open Go

abbrev Env := Nat → AV
def upd (env : Env) (s : Nat) (v : AV) : Env := fun i => if i = s then v else env i
theorem upd_eq (env : Env) (s : Nat) (v : AV) : upd env s v s = v := by simp [upd]
theorem upd_ne {i s : Nat} (h : Nat.beq i s = false) (env : Env) (v : AV) : upd env s v i = env i := by
  have : i ≠ s := fun e => by subst e; rw [beq_eq] at h; simp at h
  simp [upd, this]
theorem lt_of_blt {s n : Nat} (h : Nat.blt s n = true) : s < n := by rw [blt_eq] at h; simpa using h
def leOf (n : Nat) (env : Env) : List AV := (List.range n).map env
theorem leOf_len (n : Nat) (env : Env) : (leOf n env).length = n := by simp [leOf]
theorem leOf_getD {n s : Nat} (h : s < n) (env : Env) : (leOf n env).getD s .undef = env s := by simp [leOf, List.getD_eq_getElem?_getD, h]
theorem leOf_set (n : Nat) (env : Env) (d : Nat) (v : AV) : (leOf n env).set d v = leOf n (upd env d v) := by
  refine List.ext_getElem? fun i => ?_
  rw [List.getElem?_set]
  by_cases e : d = i
  · subst e
    simp only [leOf, List.length_map, List.length_range, if_true]
    by_cases h : d < n
    · simp [h, upd]
    · simp [h]
  · have : ¬ i = d := fun h => e h.symm
    simp only [e, if_false, leOf, List.getElem?_map]
    by_cases h : i < n
    · simp [h, upd, this]
    · simp [h]

theorem ev_t {n s : Nat} (h : Nat.blt s n = true) (env : Env) : ev (leOf n env) (.t s) = env s := leOf_getD (lt_of_blt h) env
theorem ev_c (le : List AV) (v : AV) : ev le (.c v) = v := rfl

/-- The start: the arguments, and nothing else. -/
def envOf (args : List AV) : Env := fun i => args.getD i .undef
theorem enter_eq (F : AFn) (args : List AV) (O : Mo) (S : Ms) (h : args.length ≤ F.ntmps) : enter F args O S = ⟨leOf F.ntmps (envOf args), O, S ++ [[]]⟩ := by
  unfold enter
  congr 1
  refine List.ext_getElem (by simp [leOf]; omega) fun i h1 h2 => ?_
  simp only [leOf, List.getElem_map, List.getElem_range, envOf, List.getD_eq_getElem?_getD]
  by_cases hi : i < args.length
  · simp [List.getElem_append_left hi, hi]
  · have : args[i]? = none := List.getElem?_eq_none (by omega)
    rw [List.getElem_append_right (by omega)]
    simp [this]
section
variable (cfg : Cfg) (call : FuncId → List AV → List ABlk → List (List ABlk) → Ans)

/-- Going on with a value; with a value and another memory. -/
def putC (o : Option AV) (dst : Option Nat) (l : List AOp) (st : St) : Option St :=
  match o with
  | some v => execOps cfg call l (put st dst v)
  | none => none
def putM (o : Ans) (dst : Option Nat) (l : List AOp) (st : St) : Option St :=
  match o with
  | some (v, O, S) => execOps cfg call l (put { st with O, S } dst v)
  | none => none
def putS (o : Option (Mo × Ms)) (dst : Option Nat) (l : List AOp) (st : St) : Option St :=
  match o with
  | some (O, S) => execOps cfg call l (put { st with O, S } dst .undef)
  | none => none
/-- An effect that must leave some loads as they are. -/
def putX (o : Ans) (dst : Option Nat) (chk : List (Nat × AO)) (l : List AOp) (st : St) : Option St :=
  match o with
  | some (v, O, S) => if chks { st with O, S } chk then execOps cfg call l (put { st with O, S } dst v) else none
  | none => none
def guardC (b : Option Bool) (o : AOp) (l : List AOp) (st : St) : Option St :=
  match b with
  | some true => execOps cfg call ({ o with guard := none } :: l) st
  | some false => execOps cfg call l (put st o.dst (.tup []))
  | none => none

variable {cfg call} {l : List AOp} {n : Nat} {env : Env} {O : Mo} {S : Ms} {dst : Option Nat} {d : Nat}

theorem r_nil (st : St) : execOps cfg call [] st = some st := rfl
theorem r_put (v : AV) : put ⟨leOf n env, O, S⟩ (some d) v = ⟨leOf n (upd env d v), O, S⟩ := by simp only [put, leOf_set]
theorem r_put0 (st : St) (v : AV) : put st none v = st := rfl
theorem r_some (v : AV) (st : St) : putC cfg call (some v) dst l st = execOps cfg call l (put st dst v) := rfl
theorem r_someM (v : AV) (st : St) : putM cfg call (some (v, O, S)) dst l st = execOps cfg call l (put ⟨st.env, O, S⟩ dst v) := rfl
theorem r_someS (st : St) : putS cfg call (some (O, S)) dst l st = execOps cfg call l (put ⟨st.env, O, S⟩ dst .undef) := rfl
theorem r_guard (g : Nat × Bool) (o : AO) (chk : List (Nat × AO)) (st : St) : execOps cfg call (⟨dst, some g, o, chk⟩ :: l) st = guardC cfg call (wanted st.env (some g)) ⟨dst, some g, o, chk⟩ l st := by
  simp only [execOps, guardC]
  cases wanted st.env (some g) with
  | none => rfl
  | some b => cases b <;> simp [wanted]
theorem r_gtrue (g : Option (Nat × Bool)) (o : AO) (chk : List (Nat × AO)) (st : St) : guardC cfg call (some true) ⟨dst, g, o, chk⟩ l st = execOps cfg call (⟨dst, none, o, chk⟩ :: l) st := rfl
theorem r_gfalse (g : Option (Nat × Bool)) (o : AO) (chk : List (Nat × AO)) (st : St) : guardC cfg call (some false) ⟨dst, g, o, chk⟩ l st = execOps cfg call l (put st dst (.tup [])) := rfl
def wantC (v : AV) (w : Bool) : Option Bool :=
  match v with
  | .bool b => some (b == w)
  | .tup [] => some false
  | _ => none
theorem r_wanted {s : Nat} (h : Nat.blt s n = true) (w : Bool) : wanted (leOf n env) (some (s, w)) = wantC (env s) w := by
  have e := leOf_getD (lt_of_blt h) env
  simp only [wanted, e]
  rfl
theorem r_wantT (w : Bool) : wantC (.tup []) w = some false := rfl

/-- A value operation, that is not guarded. -/
theorem r_op (o : AO) (st : St) (v : Option AV) (hc : o.isCall = false) (h : aop st o = v.map (·, st.O, st.S)) : execOps cfg call (⟨dst, none, o, []⟩ :: l) st = putC cfg call v dst l st := by
  simp only [execOps, wanted, opx, hc, Bool.false_eq_true, if_false, h]
  cases v with
  | none => rfl
  | some v => simp [putC, chks]
theorem r_opM (o : AO) (st : St) (v : Ans) (hc : o.isCall = false) (h : aop st o = v) : execOps cfg call (⟨dst, none, o, []⟩ :: l) st = putM cfg call v dst l st := by
  simp only [execOps, wanted, opx, hc, Bool.false_eq_true, if_false, h]
  cases v with
  | none => rfl
  | some v => obtain ⟨v, O, S⟩ := v; simp [putM, chks]

def pickC (c a b : AV) : Option AV :=
  match c with
  | .bool t => some (if t then a else b)
  | _ => none
def eqbC (neg : Bool) (x y : AV) : Option AV :=
  match x, y with
  | .bool a, .bool b => some (.bool (if neg then !(a == b) else (a == b)))
  | _, _ => none
def eqnC (neg : Bool) (o : Option Bool) : Option AV := o.map fun t => .bool (if neg then !t else t)
def eqsC (neg : Bool) (ks : List SK) (x y : AV) : Option AV :=
  match x, y with
  | .agg a, .agg b => eqnC neg (eqCells ks a b)
  | _, _ => none
def cviC (k : IntKind) (x : AV) : Option AV :=
  match x with
  | .int _ n => some (wr k n)
  | _ => none
def cvnC (x : AV) : Option AV :=
  match x with
  | .str s => some (.str s)
  | _ => none
def ixaC (arr : Option Nat) (sz : Nat) (x : AV) (i : Option Nat) : Option AV :=
  match i with
  | none => none
  | some i => match arr with
    | some n => if i < n then fldA (i * sz) x else none
    | none => ixaSl i sz x
def ixsC (x : AV) (i : Option Nat) : Option AV :=
  match x, i with
  | .str s, some i => (s[i]?).map fun b => .int .u8 b.toNat
  | _, _ => none
def extC (x : AV) (i : Nat) : Option AV :=
  match x with
  | .tup vs => vs[i]?
  | _ => none
def fdvC (off sz : Nat) (agg : Bool) (x : AV) : Option AV :=
  match x with
  | .agg cs => takeV sz agg (cs.drop off)
  | _ => none
def lenC (o : Option Nat) : Option AV := o.map fun n => .int .i64 (n : Nat)
def cvsC (O : Mo) (S : Ms) (x : AV) : Option AV :=
  match conts O S 1 x with
  | some (cs, _) => match x with
    | .str _ => none
    | _ => (bytesOf cs).map .str
  | none => none
def slcC (arr : Option Nat) (sz : Nat) (x : AV) (b : Nat → Option (Nat × Nat)) : Option AV :=
  match arr with
  | some n => match x, b n with
    | .ref d k off, some (l, h) => some (.sref d k (off + l * sz) (h - l) (n - l))
    | _, _ => none
  | none => none

variable (st : St) (x y z : Opd) (k : IntKind)

theorem r_mv : execOps cfg call (⟨dst, none, .mv x, []⟩ :: l) st = putC cfg call (some (ev st.env x)) dst l st := r_op _ st _ rfl rfl
theorem r_pick : execOps cfg call (⟨dst, none, .pick x y z, []⟩ :: l) st = putC cfg call (pickC (ev st.env x) (ev st.env y) (ev st.env z)) dst l st := r_op _ st _ rfl (by
  simp only [aop, pickC]; cases ev st.env x <;> rfl)
theorem r_ld (sz : Nat) (agg : Bool) : execOps cfg call (⟨dst, none, .ld sz agg x, []⟩ :: l) st = putC cfg call (ald st.O st.S sz agg (ev st.env x)) dst l st := r_op _ st _ rfl rfl
theorem r_st (sz : Nat) : execOps cfg call (⟨dst, none, .st sz x y, []⟩ :: l) st = putS cfg call (ast st.O st.S sz (ev st.env x) (ev st.env y)) dst l st := by
  rw [r_opM (.st sz x y) st _ rfl rfl]
  simp only [aop]
  cases ast st.O st.S sz (ev st.env x) (ev st.env y) with
  | none => rfl
  | some p => obtain ⟨O, S⟩ := p; rfl
theorem r_nilc (ok : TypeId → String → Bool) : execOps cfg call (⟨dst, none, .nilc x ok, []⟩ :: l) st = putC cfg call (if nilOkA ok (ev st.env x) = true then some (ev st.env x) else none) dst l st := r_op _ st _ rfl (by
  simp only [aop]; split <;> rfl)
theorem r_bin (op : BinOp) : execOps cfg call (⟨dst, none, .bin op x y, []⟩ :: l) st = putC cfg call (bin op (ev st.env x) (ev st.env y)) dst l st := r_op _ st _ rfl rfl
theorem r_eqb (neg : Bool) : execOps cfg call (⟨dst, none, .eqb neg x y, []⟩ :: l) st = putC cfg call (eqbC neg (ev st.env x) (ev st.env y)) dst l st := r_op _ st _ rfl (by
  simp only [aop, eqbC]; cases ev st.env x <;> cases ev st.env y <;> rfl)
theorem r_eqn (q : NK) (neg : Bool) : execOps cfg call (⟨dst, none, .eqn q neg x, []⟩ :: l) st = putC cfg call (eqnC neg (isNilA q (ev st.env x))) dst l st := r_op _ st _ rfl rfl
theorem r_eqs (ks : List SK) (neg : Bool) : execOps cfg call (⟨dst, none, .eqs neg ks x y, []⟩ :: l) st = putC cfg call (eqsC neg ks (ev st.env x) (ev st.env y)) dst l st := r_op _ st _ rfl (by
  simp only [aop, eqsC, eqnC]; cases ev st.env x <;> cases ev st.env y <;> rfl)
theorem r_un (op : UnOp) : execOps cfg call (⟨dst, none, .un op x, []⟩ :: l) st = putC cfg call (un op (ev st.env x)) dst l st := r_op _ st _ rfl rfl
theorem r_cvi : execOps cfg call (⟨dst, none, .cvi k x, []⟩ :: l) st = putC cfg call (cviC k (ev st.env x)) dst l st := r_op _ st _ rfl (by
  simp only [aop, cviC]; cases ev st.env x <;> rfl)
theorem r_cvn : execOps cfg call (⟨dst, none, .cvn x, []⟩ :: l) st = putC cfg call (cvnC (ev st.env x)) dst l st := r_op _ st _ rfl (by
  simp only [aop, cvnC]; cases ev st.env x <;> rfl)
theorem r_cvs : execOps cfg call (⟨dst, none, .cvs x, []⟩ :: l) st = putC cfg call (cvsC st.O st.S (ev st.env x)) dst l st := r_op _ st _ rfl (by
  simp only [aop, cvsC]
  cases conts st.O st.S 1 (ev st.env x) with
  | none => rfl
  | some p => cases ev st.env x <;> rfl)
theorem r_fld (off : Nat) : execOps cfg call (⟨dst, none, .fld off x, []⟩ :: l) st = putC cfg call (fldA off (ev st.env x)) dst l st := r_op _ st _ rfl rfl
theorem r_ixa (arr : Option Nat) (sz : Nat) : execOps cfg call (⟨dst, none, .ixa arr sz x y, []⟩ :: l) st = putC cfg call (ixaC arr sz (ev st.env x) (nth (ev st.env y))) dst l st := r_op _ st _ rfl (by
  simp only [aop, ixaC]
  cases nth (ev st.env y) with
  | none => rfl
  | some i => cases arr with
    | none => rfl
    | some n => dsimp only; split <;> rfl)
theorem r_ixs : execOps cfg call (⟨dst, none, .ixs x y, []⟩ :: l) st = putC cfg call (ixsC (ev st.env x) (nth (ev st.env y))) dst l st := r_op _ st _ rfl (by
  simp only [aop, ixsC]
  cases ev st.env x <;> cases nth (ev st.env y) <;> rfl)
theorem r_ext (i : Nat) : execOps cfg call (⟨dst, none, .ext x i, []⟩ :: l) st = putC cfg call (extC (ev st.env x) i) dst l st := r_op _ st _ rfl (by
  simp only [aop, extC]; cases ev st.env x <;> rfl)
theorem r_fdv (off sz : Nat) (agg : Bool) : execOps cfg call (⟨dst, none, .fdv off sz agg x, []⟩ :: l) st = putC cfg call (fdvC off sz agg (ev st.env x)) dst l st := r_op _ st _ rfl (by
  simp only [aop, fdvC]; cases ev st.env x <;> rfl)
theorem r_len (q : LK) : execOps cfg call (⟨dst, none, .len q x, []⟩ :: l) st = putC cfg call (lenC (lenA st.O st.S q (ev st.env x))) dst l st := r_op _ st _ rfl rfl
theorem r_alloc (zero : List AV) (obj : Bool) : execOps cfg call (⟨dst, none, .alloc zero obj, []⟩ :: l) st = putM cfg call (some (.ref (newD st.S obj) (newK st.O st.S obj) 0, newO st.O obj (.arr zero), newS st.S obj (.arr zero))) dst l st := r_opM _ st _ rfl rfl
def boxC (sz : Nat) (obj : Bool) (v : AV) (O : Mo) (S : Ms) : Ans :=
  if v.okv = true ∧ v.cells.length = sz ∧ v.low (newD S obj + 1) = true then some (.ref (newD S obj) (newK O S obj) 0, newO O obj (.arr v.cells), newS S obj (.arr v.cells)) else none
theorem r_box (sz : Nat) (obj : Bool) : execOps cfg call (⟨dst, none, .box sz x obj, []⟩ :: l) st = putM cfg call (boxC sz obj (ev st.env x) st.O st.S) dst l st := r_opM _ st _ rfl rfl
def appC (sz bytes : Nat) (obj : Bool) (s : AV) (x : Option (List AV × Nat)) (O : Mo) (S : Ms) : Ans :=
  match x with
  | none => none
  | some (new, n) => appA O S sz bytes obj new n s
theorem r_app (sz bytes : Nat) (obj : Bool) : execOps cfg call (⟨dst, none, .app sz bytes x y obj, []⟩ :: l) st = putM cfg call (appC sz bytes obj (ev st.env x) (conts st.O st.S sz (ev st.env y)) st.O st.S) dst l st := r_opM _ st _ rfl (by
  simp only [aop, appC]; cases conts st.O st.S sz (ev st.env y) <;> rfl)
theorem r_build (zero : List AV) (parts : List (Nat × Nat × Opd)) : execOps cfg call (⟨dst, none, .build zero parts, []⟩ :: l) st = putC cfg call ((buildA st.env zero parts).map .agg) dst l st := r_op _ st _ rfl rfl
def bslC (sz len : Nat) (buf obj : Bool) (o : Option (List AV)) (O : Mo) (S : Ms) : Ans :=
  o.bind fun cs =>
      if buf then
        if cs.all (AV.low (newD S obj + 1)) = true then
          some (.bref (newD S obj) (newK O S obj) 0 len cs.length, newO O obj (.buf sz cs), newS S obj (.buf sz cs))
        else none
      else if len = 0 then some (.emp, O, S)
      else if cs.all (AV.low 0) = true then some (.isl cs len, O, S) else none
theorem r_bslice (zero : List AV) (sz len : Nat) (parts : List (Nat × Opd)) (buf obj : Bool) : execOps cfg call (⟨dst, none, .bslice zero sz len parts buf obj, []⟩ :: l) st =
    putM cfg call (bslC sz len buf obj (buildA st.env (repCells zero len) (parts.map fun (i, x) => (i * sz, sz, x))) st.O st.S) dst l st := r_opM _ st _ rfl rfl
theorem r_slcA (arr : Nat) (sz : Nat) (lo hi : Option Opd) : execOps cfg call (⟨dst, none, .slc (some arr) sz x lo hi, []⟩ :: l) st = putC cfg call (slcC (some arr) sz (ev st.env x) (bounds st.env lo hi)) dst l st := r_op _ st _ rfl (by
  simp only [aop, slcC]
  cases ev st.env x <;> cases bounds st.env lo hi arr <;> rfl)
theorem r_slc (sz : Nat) (lo hi : Option Opd) : execOps cfg call (⟨dst, none, .slc none sz x lo hi, []⟩ :: l) st = putC cfg call (slcA st.env lo hi sz (ev st.env x)) dst l st := r_op _ st _ rfl rfl
def slsC (x : AV) (b : Nat → Option (Nat × Nat)) : Option AV :=
  match x with
  | .str s => match b s.length with
    | some (l, h) => some (.str ((s.drop l).take (h - l)))
    | none => none
  | _ => none
theorem r_sls (lo hi : Option Opd) : execOps cfg call (⟨dst, none, .sls x lo hi, []⟩ :: l) st = putC cfg call (slsC (ev st.env x) (bounds st.env lo hi)) dst l st := r_op _ st _ rfl (by
  simp only [aop]
  cases ev st.env x <;> (try rfl)
  rename_i s
  simp only [slsC]
  cases bounds st.env lo hi s.length <;> rfl)
def mxC (isMax : Bool) (env : List AV) (v : AV) (xs : List Opd) : Option AV := xs.foldl (mxStep isMax env) (some v)
theorem r_mx (isMax : Bool) (xs : List Opd) : execOps cfg call (⟨dst, none, .mx isMax x xs, []⟩ :: l) st = putC cfg call (mxC isMax st.env (ev st.env x) xs) dst l st := r_op _ st _ rfl rfl
def mksC (zero : List AV) (sz bytes : Nat) (obj : Bool) (l c : Option Nat) (O : Mo) (S : Ms) : Ans :=
  match l, c with
    | some l, some c => if l = c ∧ c * bytes ≤ 2 ^ 47 ∧ c < 2 ^ 62 then
        some (.bref (newD S obj) (newK O S obj) 0 l (l * sz), newO O obj (.buf sz (repCells zero c)), newS S obj (.buf sz (repCells zero c)))
      else none
    | _, _ => none
theorem r_mks (zero : List AV) (sz bytes : Nat) (obj : Bool) : execOps cfg call (⟨dst, none, .mks zero sz bytes x y obj, []⟩ :: l) st = putM cfg call (mksC zero sz bytes obj (nth (ev st.env x)) (nth (ev st.env y)) st.O st.S) dst l st := r_opM _ st _ rfl (by
  simp only [aop, mksC]
  cases nth (ev st.env x) <;> cases nth (ev st.env y) <;> rfl)
theorem r_mki (t : TypeId) : execOps cfg call (⟨dst, none, .mki t x, []⟩ :: l) st = putC cfg call (some (.iface t (ev st.env x))) dst l st := r_op _ st _ rfl rfl
theorem r_call (f : FuncId) (args : List Opd) : execOps cfg call (⟨dst, none, .call f args, []⟩ :: l) st = putM cfg call (call f (args.map (ev st.env)) st.O st.S) dst l st := by
  simp only [execOps, wanted, opx, AO.isCall, if_true, callee]
  cases call f (args.map (ev st.env)) st.O st.S with
  | none => rfl
  | some v => obtain ⟨v, O, S⟩ := v; simp [putM, chks]

def mkvC (name : String) (x : AV) : Option AV :=
  match x with
  | .iface t _ => some (.fm t name)
  | _ => none
theorem r_mkv (name : String) : execOps cfg call (⟨dst, none, .mkv name x, []⟩ :: l) st = putC cfg call (mkvC name (ev st.env x)) dst l st := r_op _ st _ rfl (by
  simp only [aop, mkvC]; cases ev st.env x <;> rfl)
theorem mkv_iface (name : String) (t : TypeId) (v : AV) : mkvC name (.iface t v) = some (.fm t name) := rfl

/-! Whole pieces of code -/

variable (N : Nat)
def seqC (r : Option (Ex × St)) (b : AC) : Option (Ex × St) :=
  match r with
  | some (.normal, st') => exec cfg call N b st'
  | r => r
def opsC (r : Option St) : Option (Ex × St) := r.map (.normal, ·)
def condC (v : AV) (a b : AC) (st : St) : Option (Ex × St) :=
  match v with
  | .bool t => if t then exec cfg call N a st else exec cfg call N b st
  | _ => none
def blockC (id : Nat) (r : Option (Ex × St)) : Option (Ex × St) :=
  match r with
  | some (.exit id', st') => if id' = id then some (.normal, st') else some (.exit id', st')
  | r => r

variable (a b : AC)
theorem e_ops (id : Nat) (l : List AOp) : exec cfg call N (.ops id l) st = opsC (execOps cfg call l st) := rfl
theorem e_opsS : opsC (some st) = some (.normal, st) := rfl
theorem e_seq : exec cfg call N (.seq a b) st = seqC (cfg := cfg) (call := call) N (exec cfg call N a st) b := rfl
theorem e_seqN : seqC (cfg := cfg) (call := call) N (some (.normal, st)) b = exec cfg call N b st := rfl
theorem e_seqR : seqC (cfg := cfg) (call := call) N (some (.ret, st)) b = some (.ret, st) := rfl
theorem e_seqE (i : Nat) : seqC (cfg := cfg) (call := call) N (some (.exit i, st)) b = some (.exit i, st) := rfl
theorem e_cond (c : Opd) : exec cfg call N (.cond c a b) st = condC (cfg := cfg) (call := call) N (ev st.env c) a b st := rfl
theorem e_condT : condC (cfg := cfg) (call := call) N (.bool true) a b st = exec cfg call N a st := rfl
theorem e_condF : condC (cfg := cfg) (call := call) N (.bool false) a b st = exec cfg call N b st := rfl
theorem e_block (id : Nat) : exec cfg call N (.block id a) st = blockC id (exec cfg call N a st) := rfl
theorem e_blockN (id : Nat) : blockC id (some (.normal, st)) = some (.normal, st) := rfl
theorem e_blockR (id : Nat) : blockC id (some (.ret, st)) = some (.ret, st) := rfl
theorem e_blockE (id : Nat) : blockC id (some (.exit id, st)) = some (.normal, st) := by simp [blockC]
theorem e_blockO {id id' : Nat} (h : Nat.beq id' id = false) : blockC id (some (.exit id', st)) = some (.exit id', st) := by
  have : id' ≠ id := fun e => by subst e; rw [beq_eq] at h; simp at h
  simp [blockC, this]
theorem e_exit (id : Nat) : exec cfg call N (.exit id) st = some (.exit id, st) := rfl
theorem e_ret : exec cfg call N .ret st = some (.ret, st) := rfl
theorem e_skip : exec cfg call N .skip st = some (.normal, st) := rfl
theorem e_loop (live : List Nat) : exec cfg call N (.loop live a) st = loopN (exec cfg call N a) live N st := rfl

/-! Results -/

end

/-! Values -/
section
variable (k : IntKind) (a b : Int)
theorem b_add : bin .add (.int k a) (.int k b) = some (wr k (a + b)) := by simp [bin, binI]
theorem b_sub : bin .sub (.int k a) (.int k b) = some (wr k (a - b)) := by simp [bin, binI]
theorem b_mul : bin .mul (.int k a) (.int k b) = some (wr k (a * b)) := by simp [bin, binI]
theorem b_quo : bin .quo (.int k a) (.int k b) = if b = 0 then none else some (wr k (a.tdiv b)) := by simp [bin, binI]
theorem b_rem : bin .rem (.int k a) (.int k b) = if b = 0 then none else some (.int k (a.tmod b)) := by simp [bin, binI]
theorem b_eql : bin .eql (.int k a) (.int k b) = some (.bool (decide (a = b))) := by
  simp only [bin, binI, if_true]
  by_cases h : a = b <;> simp [h]
theorem b_neq : bin .neq (.int k a) (.int k b) = some (.bool (decide (a ≠ b))) := by
  simp only [bin, binI, if_true]
  by_cases h : a = b <;> simp [h]
theorem b_lss : bin .lss (.int k a) (.int k b) = some (.bool (decide (a < b))) := by simp [bin, binI]
theorem b_leq : bin .leq (.int k a) (.int k b) = some (.bool (decide (a ≤ b))) := by simp [bin, binI]
theorem b_gtr : bin .gtr (.int k a) (.int k b) = some (.bool (decide (b < a))) := by simp [bin, binI]
theorem b_geq : bin .geq (.int k a) (.int k b) = some (.bool (decide (b ≤ a))) := by simp [bin, binI]
theorem b_not (t : Bool) : un .not (.bool t) = some (.bool (!t)) := rfl
theorem v_cvi (k' : IntKind) : cviC k (.int k' a) = some (wr k a) := rfl
theorem v_ext (vs : List AV) (i : Nat) : extC (.tup vs) i = vs[i]? := rfl
theorem v_fld (d i o off : Nat) : fldA off (.ref d i o) = some (.ref d i (o + off)) := rfl
theorem v_ixaS (sz i : Nat) (x : AV) : ixaC none sz x (some i) = ixaSl i sz x := rfl
theorem v_lenC (m : Nat) : lenC (some m) = some (.int .i64 (m : Nat)) := rfl

theorem wr_i64 {n : Int} (h1 : -9223372036854775808 ≤ n) (h2 : n ≤ 9223372036854775807) : wr .i64 n = .int .i64 n := by
  simp only [wr, IntKind.wrap, IntKind.bits, IntKind.signed]
  congr 1
  simp; omega
theorem wr_u64 {n : Int} (h1 : 0 ≤ n) (h2 : n ≤ 18446744073709551615) : wr .u64 n = .int .u64 n := by
  simp only [wr, IntKind.wrap, IntKind.bits, IntKind.signed]
  congr 1
  simp; omega
end

/-! Memory: the present frame on top -/
section
variable (O : Mo) (B : Ms) (F : List ABlk)
theorem m_newD : newD (B ++ [F]) false = B.length + 1 := by simp [newD]
theorem m_newK : newK O (B ++ [F]) false = F.length := by simp [newK]
theorem m_newO (b : ABlk) : newO O false b = O := rfl
theorem m_newS (b : ABlk) : newS (B ++ [F]) false b = B ++ [F ++ [b]] := by
  simp only [newS, Bool.false_eq_true, if_false]
  have hl : (B ++ [F]).length - 1 = B.length := by simp
  rw [hl]
  refine List.ext_getElem? fun j => ?_
  rw [List.getElem?_modify]
  by_cases h : j < B.length
  · have e : ¬ B.length = j := by omega
    simp [List.getElem?_append_left h, e]
  · by_cases h2 : j = B.length
    · subst h2; simp
    · rw [List.getElem?_append_right (by omega), List.getElem?_append_right (by omega)]
      have : j - B.length ≠ 0 := by omega
      obtain ⟨m, hm⟩ := Nat.exists_eq_succ_of_ne_zero this
      simp [hm]
theorem m_newDo (S : Ms) : newD S true = 0 := rfl
theorem m_newKo (S : Ms) : newK O S true = O.length := rfl
theorem m_newOo (b : ABlk) : newO O true b = O ++ [b] := rfl
theorem m_newSo (S : Ms) (b : ABlk) : newS S true b = S := rfl
theorem gm_top (i : Nat) : gm O (B ++ [F]) (B.length + 1) i = F[i]? := by simp [gm]
def aldC (o : Option ABlk) (sz : Nat) (agg : Bool) (off : Nat) : Option AV :=
  match o with
  | some (.arr cs) => takeV sz agg (cs.drop off)
  | _ => none
theorem m_ald (S : Ms) (sz : Nat) (agg : Bool) (d i off : Nat) : ald O S sz agg (.ref d i off) = aldC (gm O S d i) sz agg off := rfl
theorem m_take1 (sz off : Nat) (cs : List AV) : takeV sz false (cs.drop off) = cs[off]? := by simp [takeV]
/-- A store into the present frame. -/
def stTop (o : Option ABlk) (sz off : Nat) (x : AV) (O : Mo) (B : Ms) (F : List ABlk) (i : Nat) : Option (Mo × Ms) :=
  match o with
  | some (.arr cs) => if x.okv = true ∧ x.cells.length = sz ∧ off + sz ≤ cs.length ∧ x.low (B.length + 1 + 1) = true then some (O, B ++ [F.set i (.arr (putAt cs off x.cells))]) else none
  | _ => none
theorem smS_top (i : Nat) (b : ABlk) : smS (B ++ [F]) (B.length + 1) i b = B ++ [F.set i b] := by
  simp only [smS]
  refine List.ext_getElem? fun j => ?_
  rw [List.getElem?_modify]
  by_cases h : j < B.length
  · have e : ¬ B.length = j := by omega
    simp [List.getElem?_append_left h, e]
  · by_cases h2 : j = B.length
    · subst h2; simp
    · rw [List.getElem?_append_right (by omega), List.getElem?_append_right (by omega)]
      have : j - B.length ≠ 0 := by omega
      obtain ⟨m, hm⟩ := Nat.exists_eq_succ_of_ne_zero this
      simp [hm]
theorem m_st (sz i off : Nat) (x : AV) : ast O (B ++ [F]) sz (.ref (B.length + 1) i off) x = stTop F[i]? sz off x O B F i := by
  simp only [ast, gm_top, stTop]
  cases F[i]? with
  | none => rfl
  | some b =>
    cases b <;> (try rfl)
    simp only [smS_top, smO, Nat.add_one_ne_zero, if_false]
end
end Den
