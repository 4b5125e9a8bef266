/- An executable big-step reading of the program's sequential code: its run. -/
import Derived.Test.YtajcniofkpifaaaDenA
set_option linter.unusedSectionVars false
set_option linter.unusedVariables false
set_option linter.unusedSimpArgs false
namespace Den
open Go

/-- The answer of a call: the value, and the memory behind it. -/
abbrev Ans := Option (AV × List ABlk × List (List ABlk))

/-- What is known of the program: its functions, in this form; functions that are taken by what they answer; the functions behind methods. -/
structure Cfg where
  code : FuncId → Option AFn
  prim : FuncId → Option (List AV → List ABlk → List (List ABlk) → Ans)
  meth : TypeId → String → Option FuncId
  own : FuncId → Bool := fun _ => false

def put (st : St) (dst : Option Nat) (v : AV) : St :=
  match dst with
  | some d => { st with env := st.env.set d v }
  | none => st

def lenA (O : List ABlk) (S : List (List ABlk)) (k : LK) (x : AV) : Option Nat :=
  match k with
  | .slice => match x with
    | .nils | .emp => some 0
    | .isl _ n => some n
    | .sref _ _ _ n _ => some n
    | .bref _ _ _ n _ => some n
    | _ => none
  | .string => match x with
    | .str s => some s.length
    | _ => none
  | .map => match x with
    | .nilm => some 0
    | .map d k => match gm O S d k with
      | some (.map es) => some es.length
      | _ => none
    | _ => none
def appA (O : List ABlk) (S : List (List ABlk)) (sz bytes : Nat) (obj : Bool) (new : List AV) (n : Nat) : AV → Ans
  | .nils | .emp => if n * bytes * 2 ≤ 2 ^ 47 ∧ new.all (AV.low (newD S obj + 1)) = true then
      some (.bref (newD S obj) (newK O S obj) 0 n new.length, newO O obj (.buf sz new), newS S obj (.buf sz new)) else none
  | .bref d k off len tot => match gm O S d k with
    | some (.buf sz' cs) =>
      if sz' = sz ∧ off = 0 ∧ len * sz = tot ∧ cs.length = tot ∧ (len + n) * bytes * 2 ≤ 2 ^ 47 ∧ new.all (AV.low (d + 1)) = true then
        some (.bref d k 0 (len + n) (tot + new.length), smO O d k (.buf sz (cs ++ new)), smS S d k (.buf sz (cs ++ new)))
      else none
    | _ => none
  | _ => none
def nilOkA (ok : TypeId → String → Bool) : AV → Bool
  | .ref .. | .bptr .. | .iptr .. | .sref .. | .iface .. | .func .. | .map .. => true
  | .fm t name => ok t name
  | _ => false
def fldA (off : Nat) : AV → Option AV
  | .ref d k o => some (.ref d k (o + off))
  | .bptr d k o t => some (.bptr d k (o + off) t)
  | .iptr cs => some (.iptr (cs.drop off))
  | _ => none
def ixaSl (i sz : Nat) : AV → Option AV
  | .isl cs len => if i < len then some (.iptr (cs.drop (i * sz))) else none
  | .sref d k o len _ => if i < len then some (.ref d k (o + i * sz)) else none
  | .bref d k o len tot => if i < len then some (.bptr d k (o + i * sz) tot) else none
  | _ => none
def slcA (env : List AV) (lo hi : Option Opd) (sz : Nat) : AV → Option AV
  | .isl cs len => match bounds env lo hi len with
    | some (l, h) => some (.isl ((cs.drop (l * sz)).take ((h - l) * sz)) (h - l))
    | none => none
  | .sref d k off len cap => match bounds env lo hi len with
    | some (l, h) => some (.sref d k (off + l * sz) (h - l) (cap - l))
    | none => none
  | .bref d k off len tot => match bounds env lo hi len with
    | some (l, h) => some (.bref d k (off + l * sz) (h - l) tot)
    | none => none
  | .nils => match bounds env lo hi 0 with
    | some _ => some .nils
    | none => none
  | _ => none

def mxStep (isMax : Bool) (env : List AV) (acc : Option AV) (y : Opd) : Option AV :=
  match acc, ev env y with
  | some (.int k a), .int k' b => if k = k' then some (.int k (if isMax then (if b > a then b else a) else (if b < a then b else a))) else none
  | _, _ => none

/-- What is copied, and where to. -/
def cpyA (O : List ABlk) (S : List (List ABlk)) (sz : Nat) (new : List AV) (m : Nat) : AV → Ans
  | .nils | .emp => some (.int .i64 0, O, S)
  | .sref d k off len _ => match gm O S d k with
    | some (.arr cs) =>
      if off + min m len * sz ≤ cs.length ∧ (new.take (min m len * sz)).all (AV.low (d + 1)) = true then
        some (.int .i64 ((min m len : Nat) : Int), smO O d k (.arr (putAt cs off (new.take (min m len * sz)))), smS S d k (.arr (putAt cs off (new.take (min m len * sz)))))
      else none
    | _ => none
  | .bref d k off len tot => match gm O S d k with
    | some (.buf s cs) =>
      if cs.length = tot ∧ off + min m len * sz ≤ cs.length ∧ (new.take (min m len * sz)).all (AV.low (d + 1)) = true then
        some (.int .i64 ((min m len : Nat) : Int), smO O d k (.buf s (putAt cs off (new.take (min m len * sz)))), smS S d k (.buf s (putAt cs off (new.take (min m len * sz)))))
      else none
    | _ => none
  | _ => none
def clrA (O : List ABlk) (S : List (List ABlk)) (zero : List AV) : AV → Ans
  | .nils | .emp => some (.tup [], O, S)
  | .sref d k off len _ => match gm O S d k with
    | some (.arr cs) =>
      if off + len * zero.length ≤ cs.length ∧ (repCells zero len).all (AV.low (d + 1)) = true then
        some (.tup [], smO O d k (.arr (putAt cs off (repCells zero len))), smS S d k (.arr (putAt cs off (repCells zero len))))
      else none
    | _ => none
  | .bref d k off len tot => match gm O S d k with
    | some (.buf s cs) =>
      if cs.length = tot ∧ off + len * zero.length ≤ cs.length ∧ (repCells zero len).all (AV.low (d + 1)) = true then
        some (.tup [], smO O d k (.buf s (putAt cs off (repCells zero len))), smS S d k (.buf s (putAt cs off (repCells zero len))))
      else none
    | _ => none
  | _ => none

/-- A type assertion: whether the type found holds it; whether the value is taken out of its interface; with its answer. -/
def tasA (holds : TypeId → Option Bool) (unw ok : Bool) (zero x : AV) : Option AV :=
  match x with
  | .nili => if ok then some (.tup [zero, .bool false]) else none
  | .iface t v => match holds t with
    | some true => some (if ok then .tup [if unw then v else .iface t v, .bool true] else if unw then v else .iface t v)
    | some false => if ok then some (.tup [zero, .bool false]) else none
    | none => none
  | _ => none

/-- An operation that is no call: its value, and the memory behind it. -/
def aop (st : St) (o : AO) : Ans :=
  let e := ev st.env
  let pure (v : AV) : Ans := some (v, st.O, st.S)
  let pureO (v : Option AV) : Ans := v.map (·, st.O, st.S)
  match o with
  | .mv x => pure (e x)
  | .pick c a b => match e c with
    | .bool t => pure (if t then e a else e b)
    | _ => none
  | .alloc zero obj => some (.ref (newD st.S obj) (newK st.O st.S obj) 0, newO st.O obj (.arr zero), newS st.S obj (.arr zero))
  | .box sz x obj =>
    if (e x).okv = true ∧ (e x).cells.length = sz ∧ (e x).low (newD st.S obj + 1) = true then
      some (.ref (newD st.S obj) (newK st.O st.S obj) 0, newO st.O obj (.arr (e x).cells), newS st.S obj (.arr (e x).cells))
    else none
  | .build zero parts => pureO ((buildA st.env zero parts).map .agg)
  | .bslice zero sz len parts buf obj => (buildA st.env (repCells zero len) (parts.map fun (i, x) => (i * sz, sz, x))).bind fun cs =>
      if buf then
        if cs.all (AV.low (newD st.S obj + 1)) = true then
          some (.bref (newD st.S obj) (newK st.O st.S obj) 0 len cs.length, newO st.O obj (.buf sz cs), newS st.S obj (.buf sz cs))
        else none
      else if len = 0 then pure .emp
      else if cs.all (AV.low 0) = true then pure (.isl cs len) else none
  | .ld sz agg a => pureO (ald st.O st.S sz agg (e a))
  | .st sz a x => (ast st.O st.S sz (e a) (e x)).map (.undef, ·)
  | .nilc x ok => if nilOkA ok (e x) = true then pure (e x) else none
  | .bin op x y => pureO (bin op (e x) (e y))
  | .eqb neg x y => match e x, e y with
    | .bool a, .bool b => pure (.bool (if neg then !(a == b) else (a == b)))
    | _, _ => none
  | .eqn k neg x => pureO ((isNilA k (e x)).map fun t => .bool (if neg then !t else t))
  | .eqs neg ks x y => match e x, e y with
    | .agg a, .agg b => pureO ((eqCells ks a b).map fun t => .bool (if neg then !t else t))
    | _, _ => none
  | .un op x => pureO (un op (e x))
  | .cvi k x => match e x with
    | .int _ n => pure (wr k n)
    | _ => none
  | .cvn x => match e x with
    | .str s => pure (.str s)
    | _ => none
  | .cvs x => match conts st.O st.S 1 (e x) with
    | some (cs, _) => match e x with
      | .str _ => none
      | _ => pureO ((bytesOf cs).map .str)
    | none => none
  | .cvb _ => none
  | .slc arr sz x lo hi => match arr with
    | some n => match e x, bounds st.env lo hi n with
      | .ref d k off, some (l, h) => pure (.sref d k (off + l * sz) (h - l) (n - l))
      | _, _ => none
    | none => pureO (slcA st.env lo hi sz (e x))
  | .sls x lo hi => match e x with
    | .str s => match bounds st.env lo hi s.length with
      | some (l, h) => pure (.str ((s.drop l).take (h - l)))
      | none => none
    | _ => none
  | .fld off x => pureO (fldA off (e x))
  | .ixa arr sz x i => match nth (e i) with
    | none => none
    | some i => match arr with
      | some n => if i < n then pureO (fldA (i * sz) (e x)) else none
      | none => pureO (ixaSl i sz (e x))
  | .ixs x i => match e x, nth (e i) with
    | .str s, some i => pureO ((s[i]?).map fun b => .int .u8 b.toNat)
    | _, _ => none
  | .ixv n sz agg x i => match e x, nth (e i) with
    | .agg cs, some i => if i < n then pureO (takeV sz agg (cs.drop (i * sz))) else none
    | _, _ => none
  | .fdv off sz agg x => match e x with
    | .agg cs => pureO (takeV sz agg (cs.drop off))
    | _ => none
  | .ext x i => match e x with
    | .tup vs => pureO vs[i]?
    | _ => none
  | .len k x => pureO ((lenA st.O st.S k (e x)).map fun n => .int .i64 (n : Nat))
  | .app sz bytes s x obj => match conts st.O st.S sz (e x) with
    | none => none
    | some (new, n) => appA st.O st.S sz bytes obj new n (e s)
  | .cpy sz x y => match conts st.O st.S sz (e y) with
    | none => none
    | some (new, m) => cpyA st.O st.S sz new m (e x)
  | .clr zero x => clrA st.O st.S zero (e x)
  | .mx isMax x xs => pureO (xs.foldl (mxStep isMax st.env) (some (e x)))
  | .mks zero sz bytes l c obj => match nth (e l), nth (e c) with
    | some l, some c => if l = c ∧ c * bytes ≤ 2 ^ 47 ∧ c < 2 ^ 62 then
        some (.bref (newD st.S obj) (newK st.O st.S obj) 0 l (l * sz), newO st.O obj (.buf sz (repCells zero c)), newS st.S obj (.buf sz (repCells zero c)))
      else none
    | _, _ => none
  | .mkm obj => some (.map (newD st.S obj) (newK st.O st.S obj), newO st.O obj (.map []), newS st.S obj (.map []))
  | .lkp q zero ok m k => match e m with
    | .map d i => match gm st.O st.S d i with
      | some (.map es) => match findE q (e k) es with
        | some (some v) => pure (if ok then .tup [v, .bool true] else v)
        | some none => pure (if ok then .tup [zero, .bool false] else zero)
        | none => none
      | _ => none
    | .nilm => match findE q (e k) [] with
      | some _ => pure (if ok then .tup [zero, .bool false] else zero)
      | none => none
    | _ => none
  | .mup q m k v => match e m with
    | .map d i => match gm st.O st.S d i with
      | some (.map es) =>
        if (e k).one = true ∧ (e v).one = true ∧ (e k).low 0 = true ∧ (e v).low (d + 1) = true ∧ (findE q (e k) es).isSome = true then
          some (.undef, smO st.O d i (.map (putE q (e k) (e v) es)), smS st.S d i (.map (putE q (e k) (e v) es)))
        else none
      | _ => none
    | _ => none
  | .mkf f caps => pure (.func f (caps.map e))
  | .mki t x => pure (.iface t (e x))
  | .mkv name x => match e x with
    | .iface t _ => pure (.fm t name)
    | _ => none
  | .tas holds unw ok zero x => pureO (tasA holds unw ok zero (e x))
  | .call .. | .calld .. | .invk .. => none

/-- Whom an operation calls, with what. -/
def callee (cfg : Cfg) (env : List AV) (o : AO) : Option (FuncId × List AV) :=
  match o with
  | .call f args => some (f, args.map (ev env))
  | .calld x args => match ev env x with
    | .func f caps => some (f, args.map (ev env) ++ caps)
    | _ => none
  | .invk x m args => match ev env x with
    | .iface t v => (cfg.meth t m).map (·, v :: args.map (ev env))
    | _ => none
  | _ => none

def AO.isCall : AO → Bool
  | .call .. | .calld .. | .invk .. => true
  | _ => false

/-- An operation; 'call': what calls answer. -/
def opx (cfg : Cfg) (call : FuncId → List AV → List ABlk → List (List ABlk) → Ans) (st : St) (o : AO) : Ans :=
  if o.isCall then
    match callee cfg st.env o with
    | some (f, args) => call f args st.O st.S
    | none => none
  else aop st o

def wanted (env : List AV) (g : Option (Nat × Bool)) : Option Bool :=
  match g with
  | none => some true
  | some (s, want) => match env.getD s .undef with
    | .bool b => some (b == want)
    | .tup [] => some false
    | _ => none

def chks (st : St) (l : List (Nat × AO)) : Bool :=
  l.all fun (s, o) => decide (s < st.env.length) && match aop st o with
    | some (v, _, _) => AV.beq v (st.env.getD s .undef)
    | none => false

def execOps (cfg : Cfg) (call : FuncId → List AV → List ABlk → List (List ABlk) → Ans) : List AOp → St → Option St
  | [], st => some st
  | o :: l, st =>
    match wanted st.env o.guard with
    | none => none
    | some false => execOps cfg call l (put st o.dst (.tup []))
    | some true => match opx cfg call st o.op with
      | none => none
      | some (v, O', S') =>
        if chks { st with O := O', S := S' } o.chk then execOps cfg call l (put { st with O := O', S := S' } o.dst v) else none

/-- What a loop keeps of the slots; none named: all. -/
def keep (live : List Nat) (env : List AV) : List AV :=
  match live with
  | [] => env
  | i :: live => env.zipIdx.map fun (v, j) => if (i :: live).contains j then v else .undef

def loopN (body : St → Option (Ex × St)) (live : List Nat) : Nat → St → Option (Ex × St)
  | 0, _ => none
  | n + 1, st =>
    match body { st with env := keep live st.env } with
    | some (.normal, st') => loopN body live n st'
    | r => r

def exec (cfg : Cfg) (call : FuncId → List AV → List ABlk → List (List ABlk) → Ans) (N : Nat) : AC → St → Option (Ex × St)
  | .ops _ l, st => (execOps cfg call l st).map (.normal, ·)
  | .seq a b, st => match exec cfg call N a st with
    | some (.normal, st') => exec cfg call N b st'
    | r => r
  | .cond c a b, st => match ev st.env c with
    | .bool t => if t then exec cfg call N a st else exec cfg call N b st
    | _ => none
  | .block id a, st => match exec cfg call N a st with
    | some (.exit id', st') => if id' = id then some (.normal, st') else some (.exit id', st')
    | r => r
  | .loop live a, st => loopN (exec cfg call N a) live N st
  | .exit id, st => some (.exit id, st)
  | .ret, st => some (.ret, st)
  | .skip, st => some (.normal, st)

def resV (st : St) : RV → Option AV
  | .tmp t => some (st.env.getD t .undef)
  | .cell a sz agg => ald st.O st.S sz agg (st.env.getD a .undef)
def resL (st : St) : List RV → Option (List AV)
  | [] => some []
  | r :: l => match resV st r, resL st l with
    | some v, some vs => some (v :: vs)
    | _, _ => none
def oneOf : List AV → AV
  | [v] => v
  | vs => .tup vs

/-- The end of a function: its results, out of its frame. -/
def fin (own : Bool) (F : AFn) (r : Option (Ex × St)) : Ans :=
  match r with
  | some (.normal, st) | some (.ret, st) => match resL st F.res with
    | some vs => if own then (moveV st.S (oneOf vs)).map fun (v, Sb) => (v, st.O, Sb)
      else (snap st.S (oneOf vs)).map fun v => (v, st.O, st.S.dropLast)
    | none => none
  | _ => none

def enter (F : AFn) (args : List AV) (O : List ABlk) (S : List (List ABlk)) : St :=
  { env := args ++ List.replicate (F.ntmps - args.length) .undef, O, S := S ++ [[]] }

def den (cfg : Cfg) : Nat → FuncId → List AV → List ABlk → List (List ABlk) → Ans
  | 0, _, _, _, _ => none
  | n + 1, f, args, O, S =>
    match cfg.prim f with
    | some g => g args O S
    | none => match cfg.code f with
      | none => none
      | some F => fin (cfg.own f) F (exec cfg (den cfg n) n F.body (enter F args O S))

end Den
