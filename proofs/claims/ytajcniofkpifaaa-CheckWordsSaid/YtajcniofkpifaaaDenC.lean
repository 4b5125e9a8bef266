/- From the program's code to its executable form. -/
import Derived.Test.YtajcniofkpifaaaDenB
set_option linter.unusedSectionVars false
set_option linter.unusedVariables false
set_option linter.unusedSimpArgs false
namespace Den
open Go
variable [GTab]

mutual
def ofValue : Value → Option AV
  | .bool b => some (.bool b)
  | .int k n => some (.int k n)
  | .string s => some (.str s.data.toList)
  | .pointer none => some .nilp
  | .slice none 0 0 => some .nils
  | .map none => some .nilm
  | .nilIface => some .nili
  | .nilFunc => some .nilf
  | .agg cs => (ofCells cs.toList).map .agg
  | _ => none
def ofCells : List Value → Option (List AV)
  | [] => some []
  | .bool b :: r => (ofCells r).map (.bool b :: ·)
  | .int k n :: r => (ofCells r).map (.int k n :: ·)
  | .string s :: r => (ofCells r).map (.str s.data.toList :: ·)
  | .pointer none :: r => (ofCells r).map (.nilp :: ·)
  | .slice none 0 0 :: r => (ofCells r).map (.nils :: ·)
  | .map none :: r => (ofCells r).map (.nilm :: ·)
  | .nilIface :: r => (ofCells r).map (.nili :: ·)
  | .nilFunc :: r => (ofCells r).map (.nilf :: ·)
  | _ => none
end

def copd : Operand → Option Opd
  | .tmp t => some (.t t)
  | .const v => (ofValue v).map .c
  | .func f => some (.c (.func f []))
  | .global n => (GTab.tab n).map fun cs => .c (.iptr cs)

def copds : List Operand → Option (List Opd)
  | [] => some []
  | x :: r => match copd x, copds r with
    | some x', some r' => some (x' :: r')
    | _, _ => none

def isAggD : TypeDesc → Bool
  | .struct _ | .array _ _ => true
  | _ => false

/-- The size of a type, and whether it is a struct or an array. -/
def tyOf (P : Program) (t : TypeId) : Option (Nat × Bool) :=
  match P.info? t, P.underlying t with
  | some i, some d => some (i.size, isAggD d)
  | _, _ => none

def zeroOf (P : Program) (t : TypeId) : Option (List AV) :=
  match P.info? t with
  | some i => match i.zero with
    | some z => (ofValue z).bind fun v => if v.cells.length = i.size then some v.cells else none
    | none => none
  | none => none

def zero1 (P : Program) (t : TypeId) : Option AV :=
  match P.info? t with
  | some i => match i.zero with
    | some z => (ofValue z).bind fun v => if v.one = true then some v else none
    | none => none
  | none => none

def placesOf (P : Program) : List Field → Option (List (Nat × Nat))
  | [] => some []
  | f :: r => match tyOf P f.type, placesOf P r with
    | some (n, _), some l => some ((f.offset, n) :: l)
    | _, _ => none

def cparts (P : Program) (place : Nat → Option (Nat × Nat)) : List (Nat × Operand) → Option (List (Nat × Nat × Opd))
  | [] => some []
  | (i, x) :: r => match place i, copd x, cparts P place r with
    | some (off, sz), some x', some r' => some ((off, sz, x') :: r')
    | _, _, _ => none
def sparts : List (Nat × Operand) → Option (List (Nat × Opd))
  | [] => some []
  | (i, x) :: r => match copd x, sparts r with
    | some x', some r' => some ((i, x') :: r')
    | _, _ => none

def skOf (d : Option TypeDesc) : Option SK :=
  match d with
  | some .bool => some .bool
  | some (.int _) => some .int
  | some .string => some .str
  | _ => none

/-- The fields fill the cells one by one: the kinds of their cells, where K tells those of a field's type. -/
def eqFields (P : Program) (K : TypeId → Option (List SK)) : Nat → List Field → Option (List SK)
  | _, [] => some []
  | off, f :: r =>
    if f.name != "_" && f.offset == off then
      match K f.type, eqFields P K (off + P.cellsOf f.type) r with
      | some k, some ks => some (k ++ ks)
      | _, _ => none
    else none

/-- The cells of a type are scalars that are compared by their contents: their kinds. -/
def eqKinds (P : Program) : Nat → TypeId → Option (List SK)
  | 0, _ => none
  | m + 1, t =>
    let r := match P.underlying t with
      | some (.struct fs) => if P.stoodInHeld t then none else eqFields P (eqKinds P m) 0 fs.toList
      | some (.array n e) => (eqKinds P m e).map fun k => (List.replicate n k).flatten
      | d => (skOf d).map fun k => [k]
    match r, P.info? t with
    | some k, some i => if k.length = i.size then some k else none
    | _, _ => none

def isNilK (k : NK) (x : Operand) : Bool :=
  match k, x with
  | .ptr, .const (.pointer none) | .slice, .const (.slice none 0 0) | .map, .const (.map none) | .iface, .const .nilIface | .func, .const .nilFunc => true
  | _, _ => false

/-- What is told of a function's slots: whose new blocks are objects; whose literals are grown later; which are kept round by round, by a loop's first region. -/
structure FC where
  obj : List Nat := []
  buf : List Nat := []
  live : List (Nat × List Nat) := []
  deriving Inhabited

def negOf (op : BinOp) : Option Bool :=
  match op with
  | .eql => some false
  | .neq => some true
  | _ => none

def cnil (k : NK) (op : BinOp) (x y : Operand) (x' y' : Opd) : Option AO :=
  match negOf op with
  | some b => if isNilK k y then some (.eqn k b x') else if isNilK k x then some (.eqn k b y') else none
  | none => none

def cstruct (P : Program) (t : TypeId) (fs : List Field) (op : BinOp) (x' y' : Opd) : Option AO :=
  match eqFields P (eqKinds P 8) 0 fs, negOf op with
  | some ks, some b => if !P.stoodInHeld t && !P.eqGuardType P.depth t then some (.eqs b ks x' y') else none
  | _, _ => none

/-- What is asked against nil. -/
def nkOf : TypeDesc → Option NK
  | .pointer _ => some .ptr
  | .slice _ => some .slice
  | .map _ _ => some .map
  | .interface _ => some .iface
  | .func _ _ _ => some .func
  | _ => none

def cbinD (P : Program) (d : TypeDesc) (op : BinOp) (t : TypeId) (x y : Operand) (x' y' : Opd) : Option AO :=
  match d with
  | .int _ | .string => some (.bin op x' y')
  | .bool => (negOf op).map fun b => .eqb b x' y'
  | .struct fs => cstruct P t fs.toList op x' y'
  | d => match nkOf d with
    | some k => cnil k op x y x' y'
    | none => none

def cbin (P : Program) (op : BinOp) (t : TypeId) (x y : Operand) : Option AO :=
  match copd x, copd y, P.underlying t with
  | some x', some y', some d => cbinD P d op t x y x' y'
  | _, _, _ => none

def cconv (P : Program) (s d : TypeId) (x : Opd) : Option AO :=
  match P.underlying s, P.underlying d with
  | some (.int _), some (.int k) => some (.cvi k x)
  | some .string, some .string => some (.cvn x)
  | some (.slice e), some .string => match P.underlying e with | some (.int .u8) => some (.cvs x) | _ => none
  | some .string, some (.slice e) => match P.underlying e with | some (.int .u8) => some (.cvb x) | _ => none
  | _, _ => none

def copdO : Option Operand → Option (Option Opd)
  | none => some none
  | some x => (copd x).map some

def capp (P : Program) (e : TypeId) (s x : Opd) (obj : Bool) : Option AO :=
  match P.info? e with
  | some i => if 0 < i.size ∧ 0 < i.bytes ∧ (zeroOf P e).isSome = true then some (.app i.size i.bytes s x obj) else none
  | none => none

def ccall (P : Program) (obj : Bool) (c : Call) : Option AO :=
  match copds c.args.toList with
  | none => none
  | some args =>
    match c.callee with
    | .value (.func f) => some (.call f args)
    | .value (.tmp t) => some (.calld (.t t) args)
    | .value _ => none
    | .invoke r m => (copd r).map fun r' => .invk r' m args
    | .builtin b =>
      let t0 := (c.argTypes[0]?).bind P.underlying
      match b, args with
      | .len, [x] => match t0 with
        | some (.slice _) => some (.len .slice x)
        | some .string => some (.len .string x)
        | some (.map _ _) => some (.len .map x)
        | _ => none
      | .append, [s, x] => match t0, (c.argTypes[1]?).bind P.underlying with
        | some (.slice e), some (.slice _) | some (.slice e), some .string => capp P e s x obj
        | _, _ => none
      | .copy, [d, s] => match t0 with
        | some (.slice e) => match P.info? e with
          | some i => some (.cpy i.size d s)
          | none => none
        | _ => none
      | .clear, [x] => match t0 with
        | some (.slice e) => (zeroOf P e).map fun z => .clr z x
        | _ => none
      | .max, x :: xs => some (.mx true x xs)
      | .min, x :: xs => some (.mx false x xs)
      | _, _ => none

/-- A method, by name, of the pointers that a type is: it may be asked for before it is called. -/
def mok (P : Program) (t : TypeId) (name : String) : Bool :=
  match P.info? t with
  | some i => match i.methods.find? (·.name == name) with
    | some m => m.path.isEmpty && (match m.func with | some (_, b) => b | none => false)
    | none => false
  | none => false

/-- Whether a value of the type t holds what is asserted. -/
def holdsOf (P : Program) (asserted : TypeId) (d : TypeDesc) (t : TypeId) : Option Bool :=
  match d with
  | .interface want => match P.info? t with
    | some i => some (Instr.missingMethod want i.methods).isNone
    | none => none
  | _ => some (t == asserted)

/-- Is the value taken out of its interface? -/
def unwOf : TypeDesc → Bool
  | .interface _ => false
  | _ => true

def FC.isObj (fc : FC) (dst : Option Nat) : Bool := match dst with | some d => fc.obj.contains d | none => false
def FC.isBuf (fc : FC) (dst : Option Nat) : Bool := match dst with | some d => fc.buf.contains d | none => false

def cop (P : Program) (fc : FC) (o : Oper) : Option AO :=
  let obj : Bool := fc.isObj o.dst
  match o.op with
  | .move x | .assign x => (copd x).map .mv
  | .pick c a b => match copd c, copd a, copd b with
    | some c', some a', some b' => some (.pick c' a' b')
    | _, _, _ => none
  | .alloc t => (zeroOf P t).map fun z => .alloc z obj
  | .box t x => match tyOf P t, copd x with
    | some (n, _), some x' => some (.box n x' obj)
    | _, _ => none
  | .build t parts => match P.underlying t, zeroOf P t with
    | some (.struct fs), some z => match placesOf P fs.toList with
      | some pl => (cparts P (fun i => pl[i]?) parts.toList).map fun ps => .build z ps
      | none => none
    | some (.array _ e), some z => (tyOf P e).bind fun (n, _) => (cparts P (fun i => some (i * n, n)) parts.toList).map fun ps => .build z ps
    | _, _ => none
  | .buildSlice t len parts => match P.underlying t with
    | some (.slice e) => match zeroOf P e, tyOf P e, sparts parts.toList with
      | some z, some (n, _), some ps => if 0 < n ∧ len * n ≤ 2 ^ 24 then some (.bslice z n len ps (fc.isBuf o.dst) obj) else none
      | _, _, _ => none
    | _ => none
  | .load t a => match tyOf P t, copd a with
    | some (n, g), some a' => some (.ld n g a')
    | _, _ => none
  | .store t a x => match tyOf P t, copd a, copd x with
    | some (n, _), some a', some x' => some (.st n a' x')
    | _, _, _ => none
  | .nilCheck x => (copd x).map (.nilc · (mok P))
  | .binOp op t x y _ => cbin P op t x y
  | .unOp op _ x => (copd x).map (.un op)
  | .convert s d x => (copd x).bind (cconv P s d)
  | .slice t x lo hi none => match copd x, copdO lo, copdO hi with
    | some x', some lo', some hi' => match P.underlying t with
      | some (.array n e) => (tyOf P e).map fun (sz, _) => .slc (some n) sz x' lo' hi'
      | some (.slice e) => (tyOf P e).map fun (sz, _) => .slc none sz x' lo' hi'
      | some .string => some (.sls x' lo' hi')
      | _ => none
    | _, _, _ => none
  | .fieldAddr s x f => match P.underlying s, copd x with
    | some (.struct fs), some x' => match fs[f]? with
      | some fd => match tyOf P fd.type with
        | some (n, _) => if n = 0 then none else some (.fld fd.offset x')
        | none => none
      | none => none
    | _, _ => none
  | .indexAddr t x i => match copd x, copd i with
    | some x', some i' => match P.underlying t with
      | some (.array n e) => (tyOf P e).map fun (sz, _) => .ixa (some n) sz x' i'
      | some (.slice e) => (tyOf P e).map fun (sz, _) => .ixa none sz x' i'
      | _ => none
    | _, _ => none
  | .index t x i => match copd x, copd i with
    | some x', some i' => match P.underlying t with
      | some .string => some (.ixs x' i')
      | some (.array n e) => (tyOf P e).map fun (sz, g) => .ixv n sz g x' i'
      | _ => none
    | _, _ => none
  | .field t x f => match P.underlying t, copd x with
    | some (.struct fs), some x' => match fs[f]? with
      | some fd => (tyOf P fd.type).map fun (n, g) => .fdv fd.offset n g x'
      | none => none
    | _, _ => none
  | .extract x i => (copd x).map fun x' => .ext x' i
  | .call c => ccall P obj c
  | .makeSlice t l c => match P.underlying t, copd l, copd c with
    | some (.slice e), some l', some c' => match zeroOf P e, P.info? e with
      | some z, some i => some (.mks z i.size i.bytes l' c' obj)
      | _, _ => none
    | _, _, _ => none
  | .makeMap t none => match P.underlying t with
    | some (.map _ _) => some (.mkm obj)
    | _ => none
  | .lookup t m k ok => match P.underlying t, copd m, copd k with
    | some (.map kt e), some m', some k' => match skOf (P.underlying kt), zero1 P e with
      | some q, some z => some (.lkp q z ok m' k')
      | _, _ => none
    | _, _, _ => none
  | .mapUpdate t m k v => match P.underlying t, copd m, copd k, copd v with
    | some (.map kt _), some m', some k', some v' => match skOf (P.underlying kt) with
      | some q => some (.mup q m' k' v')
      | none => none
    | _, _, _, _ => none
  | .makeFunc (.func f) first caps => if first.isEmpty then (copds caps.toList).map (.mkf f) else none
  | .makeFunc (.method name) first caps => match first.toList with
    | [x] => if caps.isEmpty then (copd x).map (.mkv name) else none
    | _ => none
  | .makeInterface t x => match P.underlying t with
    | some (.interface _) | none => none
    | _ => (copd x).map (.mki t)
  | .typeAssert x _ asserted ok => match P.underlying asserted, copd x, zero1 P asserted with
    | some d, some x', some z => some (.tas (holdsOf P asserted d) (unwOf d) ok z x')
    | _, _, _ => none
  | _ => none

/-! ### Regions -/

def AO.isEff : AO → Bool
  | .st .. | .call .. | .calld .. | .invk .. | .app .. | .cpy .. | .clr .. | .mup .. | .cvb .. => true
  | _ => false
def AO.isLoad : AO → Bool
  | .ld .. | .lkp .. | .cvs .. | .len .. => true
  | _ => false
def anyOn (o : Oper) : List Nat := o.after.toList.filterMap fun e => if Region.binds .any e then some e.on else none

/-- Of each operation: those that come before it in every order, as the bits of a number. -/
def ancs : List Oper → List Nat → List Nat
  | [], acc => acc
  | o :: r, acc => ancs r (acc ++ [(anyOn o).foldl (fun m i => m ||| 2 ^ i ||| acc.getD i 0) 0])

/-- One operation, with its guard's slot. -/
def coper (P : Program) (fc : FC) (ops : Array Oper) (o : Oper) : Option AOp :=
  match cop P fc o with
  | none => none
  | some a => match o.guard with
    | none => some { dst := o.dst, guard := none, op := a, chk := [] }
    | some (j, want) => match (ops[j]?).bind (·.dst) with
      | some d => some { dst := o.dst, guard := some (d, want), op := a, chk := [] }
      | none => none

def copers (P : Program) (fc : FC) (ops : Array Oper) : List Oper → Option (List AOp)
  | [] => some []
  | o :: r => match coper P fc ops o, copers P fc ops r with
    | some a, some l => some (a :: l)
    | _, _ => none

/-- The order: what is no effect, as soon as it may come; else the next effect. -/
def sched (as : List AOp) (an : List Nat) : Nat → Nat → List Nat
  | 0, _ => []
  | n + 1, done =>
    let free (i : Nat) : Bool := !done.testBit i && (an.getD i 0) &&& done == an.getD i 0
    let idx := List.range as.length
    match idx.find? (fun i => free i && !((as[i]?).map (·.op.isEff)).getD true) with
    | some i => i :: sched as an n (done ||| 2 ^ i)
    | none => match idx.find? free with
      | some i => i :: sched as an n (done ||| 2 ^ i)
      | none => []

/-- What an effect must not disturb: the loads that were carried out, and need not have come before it. -/
def chksOf (as : List AOp) (an : List Nat) (before : List Nat) (e : Nat) : List (Nat × AO) :=
  before.filterMap fun i => match as[i]? with
    | some a => if a.op.isLoad && !(an.getD e 0).testBit i then a.dst.map (·, a.op) else none
    | none => none

def layOut (as : List AOp) (an : List Nat) : List Nat → List Nat → List AOp
  | _, [] => []
  | before, i :: r => match as[i]? with
    | some a => (if a.op.isEff then { a with chk := chksOf as an before i } else a) :: layOut as an (before ++ [i]) r
    | none => layOut as an (before ++ [i]) r

/-- The slots that it looks at. -/
def AOp.looks (a : AOp) : List Nat := a.op.slots ++ (match a.guard with | some (s, _) => [s] | none => [])

def relA (an : List Nat) (i j : Nat) : Bool := (an.getD j 0).testBit i

def dstIn (a : AOp) (l : List Nat) : Bool := match a.dst with | some d => l.contains d | none => false
def sameDst (a b : AOp) : Bool := match a.dst with | some d => b.dst == some d | none => false

/-- Nothing after the place p writes what the load there looks at, or its slot. -/
def loadClean (its : List AOp) (p : Nat) (a : AOp) : Bool :=
  a.dst.isSome && (List.range its.length).all fun r => match its[r]? with
    | some b => (!decide (p ≤ r) || !dstIn b a.looks) && (!decide (p < r) || !sameDst b a)
    | none => false

def pairOk (an : List Nat) (its : List AOp) (p q i j : Nat) (a b : AOp) (on : List Nat) : Bool :=
  (if relA an i j then decide (p < q) && (on.contains i || on.any (relA an i ·)) else !on.contains i) &&
  (p == q || relA an i j || relA an j i || (!dstIn a b.looks && !sameDst a b && (!b.op.isEff || (!a.op.isEff && decide (p < q))))) &&
  (!(a.op.isLoad && b.op.isEff && decide (p < q)) || relA an i j || loadClean its p a)

/-- Whether the order may stand for all. -/
def orderOk (ops : Array Oper) (as : List AOp) (an : List Nat) (ord : List Nat) : Bool :=
  let n := ops.size
  let its := ord.filterMap (as[·]?)
  ord.length == n &&
  ((List.range n).all fun p => match ord[p]? with | some i => decide (i < n) && ord.idxOf i == p | none => false) &&
  ((List.range n).all fun i => ord.contains i) &&
  (List.range n).all fun q => match ord[q]? with
    | some j => match as[j]?, ops[j]? with
      | some b, some o => let on := anyOn o
        (on.all fun m => decide (m < n)) && (List.range n).all fun p => match ord[p]? with
          | some i => match as[i]? with
            | some a => pairOk an its p q i j a b on
            | none => false
          | none => false
      | _, _ => false
    | none => false

def cregion (P : Program) (fc : FC) (ops : Array Oper) (draw : Bool) : Option (List AOp) :=
  match copers P fc ops ops.toList with
  | none => none
  | some as =>
    if draw then
      let an := ancs ops.toList []
      let ord := sched as an as.length 0
      if orderOk ops as an ord then some (layOut as an [] ord) else none
    else some as

def firstRegion : Code → Option Nat
  | .region id _ _ => some id
  | .seq a b => match firstRegion a with | some i => some i | none => firstRegion b
  | .cond _ a b => match firstRegion a with | some i => some i | none => firstRegion b
  | .block _ a | .loop a | .scope a => firstRegion a
  | _ => none

def compile (P : Program) (fc : FC)   : Code → Option AC
  | .skip => some .skip
  | .region id ops draw => (cregion P fc ops draw).map (.ops id)
  | .seq a b => match compile P fc a, compile P fc b with
    | some a', some b' => some (.seq a' b')
    | _, _ => none
  | .cond c a b => match copd c, compile P fc a, compile P fc b with
    | some c', some a', some b' => some (.cond c' a' b')
    | _, _, _ => none
  | .block id a => (compile P fc a).map (.block id)
  | .loop a => (compile P fc a).map (.loop (((firstRegion a).bind fun i => (fc.live.find? (·.1 == i)).map (·.2)).getD []))
  | .exit id => some (.exit id)
  | .scope a => compile P fc a
  | .label _ => some .skip
  | .ret => some .ret
  | _ => none

def cres (P : Program) : List ResultVar → Option (List RV)
  | [] => some []
  | .tmp t :: r => (cres P r).map (.tmp t :: ·)
  | .cell a t :: r => match tyOf P t, cres P r with
    | some (n, g), some r' => some (.cell a n g :: r')
    | _, _ => none

def cfun (P : Program) (fc : FC) (f : Func) : Option AFn :=
  match f.body with
  | some b => match compile P fc b, cres P f.results.toList with
    | some b', some r' => some { ntmps := f.ntmps, res := r', body := b' }
    | _, _ => none
  | none => none

end Den
