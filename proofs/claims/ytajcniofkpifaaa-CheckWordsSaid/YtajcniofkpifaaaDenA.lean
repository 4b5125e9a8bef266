/- An executable big-step reading of the program's sequential code, over values that hold no addresses of their own: the definitions. -/
import Derived.Orders
import Derived.Laws.Sem
set_option linter.unusedSectionVars false
set_option linter.unusedVariables false
set_option linter.unusedSimpArgs false
namespace Den
open Go

/-- Abstract values. 'isl': a slice whose contents never change any more (its cells, flattened); 'ref d k off': the cell off of the block k of depth d (0: the objects; d + 1: the frame d). -/
inductive AV where
  | undef
  | int (k : IntKind) (n : Int)
  | bool (b : Bool)
  | str (s : List UInt8)
  | nilp | nils | nili | nilf | nilm | emp
  | isl (cells : List AV) (len : Nat)
  | iptr (cells : List AV)
  | agg (cs : List AV)
  | tup (vs : List AV)
  | iface (t : TypeId) (v : AV)
  | ref (d k off : Nat)
  | sref (d k off len cap : Nat)
  | bptr (d k off tot : Nat)
  | bref (d k off len tot : Nat)
  | map (d k : Nat)
  | func (f : FuncId) (caps : List AV)
  | fm (t : TypeId) (name : String)
  deriving Inhabited

def AV.cells : AV → List AV
  | .agg cs => cs
  | v => [v]

/-- May it stand in one cell? -/
def AV.one : AV → Bool
  | .undef | .agg _ | .tup _ => false
  | _ => true

/-- Is it a value that a variable may hold? -/
def AV.okv : AV → Bool
  | .undef | .tup _ => false
  | _ => true

mutual
def AV.beq : AV → AV → Bool
  | .undef, .undef => true
  | .int k n, .int k' n' => k == k' && n == n'
  | .bool b, .bool b' => b == b'
  | .str s, .str s' => s == s'
  | .nilp, .nilp | .nils, .nils | .nili, .nili | .nilf, .nilf | .nilm, .nilm | .emp, .emp => true
  | .fm t n, .fm t' n' => t == t' && n == n'
  | .isl c n, .isl c' n' => n == n' && AV.beqs c c'
  | .iptr c, .iptr c' => AV.beqs c c'
  | .agg c, .agg c' => AV.beqs c c'
  | .tup c, .tup c' => AV.beqs c c'
  | .iface t v, .iface t' v' => t == t' && AV.beq v v'
  | .ref d k o, .ref d' k' o' => d == d' && k == k' && o == o'
  | .sref d k o l c, .sref d' k' o' l' c' => d == d' && k == k' && o == o' && l == l' && c == c'
  | .bptr d k o t, .bptr d' k' o' t' => d == d' && k == k' && o == o' && t == t'
  | .bref d k o l t, .bref d' k' o' l' t' => d == d' && k == k' && o == o' && l == l' && t == t'
  | .map d k, .map d' k' => d == d' && k == k'
  | .func f c, .func f' c' => f == f' && AV.beqs c c'
  | _, _ => false
def AV.beqs : List AV → List AV → Bool
  | [], [] => true
  | a :: as, b :: bs => AV.beq a b && AV.beqs as bs
  | _, _ => false
end

mutual
theorem AV.beq_refl : (a : AV) → AV.beq a a = true
  | .undef | .nilp | .nils | .nili | .nilf | .nilm | .emp | .fm .. => by simp [AV.beq]
  | .int .. | .bool _ | .str _ | .ref .. | .sref .. | .bptr .. | .bref .. | .map .. => by simp [AV.beq]
  | .isl c n => by simp [AV.beq, AV.beqs_refl c]
  | .iptr c => by simp [AV.beq, AV.beqs_refl c]
  | .agg c => by simp [AV.beq, AV.beqs_refl c]
  | .tup c => by simp [AV.beq, AV.beqs_refl c]
  | .iface t v => by simp [AV.beq, AV.beq_refl v]
  | .func f c => by simp [AV.beq, AV.beqs_refl c]
theorem AV.beqs_refl : (a : List AV) → AV.beqs a a = true
  | [] => by simp [AV.beqs]
  | a :: as => by simp [AV.beqs, AV.beq_refl a, AV.beqs_refl as]
end

mutual
theorem AV.beq_eq : (a b : AV) → AV.beq a b = true → a = b
  | a, b => by
    intro h
    cases a <;> cases b <;> simp [AV.beq] at h <;> try (first | rfl | (simp [h]; done))
    case isl.isl c n c' n' => rw [AV.beqs_eq c c' h.2, h.1]
    case iptr.iptr c c' => rw [AV.beqs_eq c c' h]
    case agg.agg c c' => rw [AV.beqs_eq c c' h]
    case tup.tup c c' => rw [AV.beqs_eq c c' h]
    case iface.iface t v t' v' => rw [AV.beq_eq v v' h.2, h.1]
    case func.func f c f' c' => rw [AV.beqs_eq c c' h.2, h.1]
theorem AV.beqs_eq : (a b : List AV) → AV.beqs a b = true → a = b
  | [], [] => fun _ => rfl
  | [], _ :: _ => by simp [AV.beqs]
  | _ :: _, [] => by simp [AV.beqs]
  | a :: as, b :: bs => by
    intro h
    simp [AV.beqs] at h
    rw [AV.beq_eq a b h.1, AV.beqs_eq as bs h.2]
end

/-- Blocks: fixed cells; a slice that is grown by append (the cells of an element, the live cells); a map. -/
inductive ABlk where
  | arr (cells : List AV)
  | buf (sz : Nat) (cells : List AV)
  | map (es : List (AV × AV))
  deriving Inhabited

/-- The objects, and the frames' blocks. -/
def gm (O : List ABlk) (S : List (List ABlk)) : Nat → Nat → Option ABlk
  | 0, k => O[k]?
  | d + 1, k => (S[d]?).bind (·[k]?)

def smO (O : List ABlk) (d k : Nat) (b : ABlk) : List ABlk := if d = 0 then O.set k b else O
def smS (S : List (List ABlk)) : Nat → Nat → ABlk → List (List ABlk)
  | 0, _, _ => S
  | d + 1, k, b => S.modify d (·.set k b)

structure St where
  env : List AV
  O : List ABlk
  S : List (List ABlk)
  deriving Inhabited

/-- Operands: a slot, a constant. -/
inductive Opd where
  | t (s : Nat)
  | c (v : AV)
  deriving Inhabited

def ev (env : List AV) : Opd → AV
  | .t s => env.getD s .undef
  | .c v => v

/-- What is asked against nil; what has a length. -/
inductive NK where
  | ptr | slice | map | iface | func
  deriving DecidableEq, Inhabited
inductive SK where
  | int | str | bool
  deriving DecidableEq, Inhabited
inductive LK where
  | slice | string | map
  deriving DecidableEq, Inhabited

inductive AO where
  | mv (x : Opd)
  | pick (c a b : Opd)
  | alloc (zero : List AV) (obj : Bool)
  | box (sz : Nat) (x : Opd) (obj : Bool)
  | build (zero : List AV) (parts : List (Nat × Nat × Opd))
  | bslice (zero : List AV) (sz len : Nat) (parts : List (Nat × Opd)) (buf obj : Bool)
  | ld (sz : Nat) (agg : Bool) (a : Opd)
  | st (sz : Nat) (a x : Opd)
  | nilc (x : Opd) (ok : TypeId → String → Bool)
  | bin (op : BinOp) (x y : Opd)
  | eqb (neg : Bool) (x y : Opd)
  | eqn (k : NK) (neg : Bool) (x : Opd)
  | eqs (neg : Bool) (ks : List SK) (x y : Opd)
  | un (op : UnOp) (x : Opd)
  | cvi (k : IntKind) (x : Opd)
  | cvn (x : Opd)
  | cvs (x : Opd)
  | cvb (x : Opd)
  | slc (arr : Option Nat) (sz : Nat) (x : Opd) (lo hi : Option Opd)
  | sls (x : Opd) (lo hi : Option Opd)
  | fld (off : Nat) (x : Opd)
  | ixa (arr : Option Nat) (sz : Nat) (x i : Opd)
  | ixs (x i : Opd)
  | ixv (n sz : Nat) (agg : Bool) (x i : Opd)
  | fdv (off sz : Nat) (agg : Bool) (x : Opd)
  | ext (x : Opd) (i : Nat)
  | call (f : FuncId) (args : List Opd)
  | calld (x : Opd) (args : List Opd)
  | invk (x : Opd) (m : String) (args : List Opd)
  | len (k : LK) (x : Opd)
  | app (sz bytes : Nat) (s x : Opd) (obj : Bool)
  | cpy (sz : Nat) (d s : Opd)
  | clr (zero : List AV) (x : Opd)
  | mx (isMax : Bool) (x : Opd) (xs : List Opd)
  | mks (zero : List AV) (sz bytes : Nat) (l c : Opd) (obj : Bool)
  | mkm (obj : Bool)
  | lkp (q : SK) (zero : AV) (ok : Bool) (m k : Opd)
  | mup (q : SK) (m k v : Opd)
  | mkf (f : FuncId) (caps : List Opd)
  | mki (t : TypeId) (x : Opd)
  | mkv (name : String) (x : Opd)
  | tas (holds : TypeId → Option Bool) (unw ok : Bool) (zero : AV) (x : Opd)
  deriving Inhabited

/-- What an operation is given. -/
def AO.opds : AO → List Opd
  | .mv x | .box _ x _ | .ld _ _ x | .nilc x _ | .eqn _ _ x | .un _ x | .cvi _ x | .cvn x | .cvs x | .cvb x | .fld _ x | .fdv _ _ _ x | .ext x _ | .len _ x | .clr _ x | .mki _ x | .mkv _ x | .tas _ _ _ _ x => [x]
  | .pick c a b | .mup _ c a b => [c, a, b]
  | .alloc .. | .mkm _ => []
  | .build _ parts => parts.map (·.2.2)
  | .bslice _ _ _ parts _ _ => parts.map (·.2)
  | .st _ x y | .bin _ x y | .eqb _ x y | .eqs _ _ x y | .ixa _ _ x y | .ixs x y | .ixv _ _ _ x y | .app _ _ x y _ | .cpy _ x y | .mks _ _ _ x y _ | .lkp _ _ _ x y => [x, y]
  | .slc _ _ x lo hi | .sls x lo hi => x :: (lo.toList ++ hi.toList)
  | .call _ args | .mkf _ args => args
  | .calld x args | .invk x _ args | .mx _ x args => x :: args

def Opd.slot : Opd → Option Nat
  | .t s => some s
  | .c _ => none

def AO.slots (o : AO) : List Nat := o.opds.filterMap Opd.slot

/-- An operation: where its value goes, whether it is carried out, what it is, and which loads must not be disturbed by it. -/
structure AOp where
  dst : Option Nat
  guard : Option (Nat × Bool)
  op : AO
  chk : List (Nat × AO)
  deriving Inhabited

inductive AC where
  | ops (id : Nat) (l : List AOp)
  | seq (a b : AC)
  | cond (c : Opd) (a b : AC)
  | block (id : Nat) (a : AC)
  | loop (live : List Nat) (a : AC)
  | exit (id : Nat)
  | ret
  | skip
  deriving Inhabited

inductive Ex where
  | normal | exit (id : Nat) | ret
  deriving DecidableEq, Inhabited

inductive RV where
  | tmp (t : Nat)
  | cell (a : Nat) (sz : Nat) (agg : Bool)
  deriving Inhabited

structure AFn where
  ntmps : Nat
  res : List RV
  body : AC
  deriving Inhabited

/-! ### Single operations -/

def wr (k : IntKind) (n : Int) : AV := .int k (k.wrap n)

def bytesLess : List UInt8 → List UInt8 → Bool
  | _, [] => false
  | [], _ :: _ => true
  | a :: x, b :: y => a < b || (a == b && bytesLess x y)

def binI (op : BinOp) (k : IntKind) (a b : Int) : Option AV :=
  match op with
  | .add => some (wr k (a + b))
  | .sub => some (wr k (a - b))
  | .mul => some (wr k (a * b))
  | .quo => if b = 0 then none else some (wr k (a.tdiv b))
  | .rem => if b = 0 then none else some (.int k (a.tmod b))
  | .and => some (wr k (BitVec.ofInt k.bits a &&& BitVec.ofInt k.bits b).toNat)
  | .or => some (wr k (BitVec.ofInt k.bits a ||| BitVec.ofInt k.bits b).toNat)
  | .xor => some (wr k (BitVec.ofInt k.bits a ^^^ BitVec.ofInt k.bits b).toNat)
  | .andNot => some (wr k (BitVec.ofInt k.bits a &&& ~~~ (BitVec.ofInt k.bits b)).toNat)
  | .eql => some (.bool (a == b))
  | .neq => some (.bool (a != b))
  | .lss => some (.bool (decide (a < b)))
  | .leq => some (.bool (decide (a ≤ b)))
  | .gtr => some (.bool (decide (a > b)))
  | .geq => some (.bool (decide (a ≥ b)))
  | _ => none

def binS (op : BinOp) (a b : List UInt8) : Option AV :=
  match op with
  | .add => if ((a.length + b.length : Nat) : Int) > IntKind.i64.max then none else some (.str (a ++ b))
  | .eql => some (.bool (a == b))
  | .neq => some (.bool (!(a == b)))
  | .lss => some (.bool (bytesLess a b))
  | .leq => some (.bool (bytesLess a b || a == b))
  | .gtr => some (.bool (!(bytesLess a b || a == b)))
  | .geq => some (.bool (!bytesLess a b))
  | _ => none

/-- Is it nil, as a pointer, slice, map, interface or function? -/
def isNilA (k : NK) (v : AV) : Option Bool :=
  match k, v with
  | .ptr, .nilp => some true
  | .ptr, .ref .. => some false
  | .ptr, .iptr .. => some false
  | .slice, .nils => some true
  | .slice, .emp => some false
  | .slice, .sref .. => some false
  | .slice, .isl _ len => if len = 0 then none else some false
  | .slice, .bref _ _ _ len _ => if len = 0 then none else some false
  | .map, .nilm => some true
  | .map, .map .. => some false
  | .iface, .nili => some true
  | .iface, .iface .. => some false
  | .func, .nilf => some true
  | .func, .func .. => some false
  | .func, .fm .. => some false
  | _, _ => none

def bin (op : BinOp) (x y : AV) : Option AV :=
  match x, y with
  | .int k a, .int k' b =>
    match op with
    | .shl => if b < 0 then none else some (wr k (a * 2 ^ (min b.toNat k.bits)))
    | .shr => if b < 0 then none else some (.int k (a.fdiv (2 ^ (min b.toNat k.bits))))
    | _ => if k = k' then binI op k a b else none
  | .str a, .str b => binS op a b
  | _, _ => none

def un (op : UnOp) (x : AV) : Option AV :=
  match op, x with
  | .neg, .int k n => some (wr k (0 - n))
  | .not, .bool b => some (.bool !b)
  | _, _ => none

/-- Scalars whose equality is that of their contents. -/
def eqCell (k : SK) (x y : AV) : Option Bool :=
  match k, x, y with
  | .int, .int k a, .int k' b => if k = k' then some (a == b) else none
  | .str, .str a, .str b => some (a == b)
  | .bool, .bool a, .bool b => some (a == b)
  | _, _, _ => none
def eqCells : List SK → List AV → List AV → Option Bool
  | [], [], [] => some true
  | k :: ks, a :: as, b :: bs => match eqCell k a b with
    | some true => eqCells ks as bs
    | some false => some false
    | none => none
  | _, _, _ => none

def nth (v : AV) : Option Nat :=
  match v with
  | .int _ n => if 0 ≤ n then some n.toNat else none
  | _ => none

/-- Reading sz cells, as a value. -/
def takeV (sz : Nat) (agg : Bool) (cs : List AV) : Option AV :=
  if agg then (if sz ≤ cs.length then some (.agg (cs.take sz)) else none) else cs[0]?

def ald (O : List ABlk) (S : List (List ABlk)) (sz : Nat) (agg : Bool) (a : AV) : Option AV :=
  match a with
  | .ref d k off => match gm O S d k with
    | some (.arr cs) => takeV sz agg (cs.drop off)
    | _ => none
  | .bptr d k off tot => match gm O S d k with
    | some (.buf _ cs) => if cs.length = tot then takeV sz agg (cs.drop off) else none
    | _ => none
  | .iptr cs => takeV sz agg cs
  | _ => none

/-- The deepest depth that it refers to is below lim. -/
def AV.low (lim : Nat) : AV → Bool
  | .ref d _ _ | .sref d _ _ _ _ | .bptr d _ _ _ | .bref d _ _ _ _ | .map d _ => d < lim
  | .agg cs => cs.all (fun c => match c with
    | .ref d _ _ | .sref d _ _ _ _ | .bptr d _ _ _ | .bref d _ _ _ _ | .map d _ => decide (d < lim)
    | .agg _ | .tup _ | .func _ _ => false
    | .iface _ (.ref d _ _) => decide (d < lim)
    | .iface _ _ => false
    | _ => true)
  | .iface _ (.ref d _ _) => d < lim
  | .iface _ _ | .tup _ | .func _ _ => false
  | _ => true

/-- Writing cells at an offset. -/
def putAt (cs : List AV) (off : Nat) (new : List AV) : List AV := cs.take off ++ new ++ cs.drop (off + new.length)

def ast (O : List ABlk) (S : List (List ABlk)) (sz : Nat) (a x : AV) : Option (List ABlk × List (List ABlk)) :=
  match a with
  | .ref d k off => match gm O S d k with
    | some (.arr cs) =>
      if x.okv ∧ x.cells.length = sz ∧ off + sz ≤ cs.length ∧ x.low (d + 1) = true then
        some (smO O d k (.arr (putAt cs off x.cells)), smS S d k (.arr (putAt cs off x.cells)))
      else none
    | _ => none
  | .bptr d k off tot => match gm O S d k with
    | some (.buf s cs) =>
      if cs.length = tot ∧ x.okv ∧ x.cells.length = sz ∧ off + sz ≤ cs.length ∧ x.low (d + 1) = true then
        some (smO O d k (.buf s (putAt cs off x.cells)), smS S d k (.buf s (putAt cs off x.cells)))
      else none
    | _ => none
  | _ => none

/-- A new block in the present frame, or among the objects: the memory behind it, and where it is. -/
def newO (O : List ABlk) (obj : Bool) (b : ABlk) : List ABlk := if obj then O ++ [b] else O
def newS (S : List (List ABlk)) (obj : Bool) (b : ABlk) : List (List ABlk) := if obj then S else S.modify (S.length - 1) (· ++ [b])
def newD (S : List (List ABlk)) (obj : Bool) : Nat := if obj then 0 else S.length
def newK (O : List ABlk) (S : List (List ABlk)) (obj : Bool) : Nat := if obj then O.length else (S.getLastD []).length

def buildA (env : List AV) (cells : List AV) : List (Nat × Nat × Opd) → Option (List AV)
  | [] => some cells
  | (off, size, x) :: rest =>
    if (ev env x).okv = true ∧ (ev env x).cells.length = size ∧ off + size ≤ cells.length then buildA env (putAt cells off (ev env x).cells) rest else none

def repCells (zero : List AV) : Nat → List AV
  | 0 => []
  | n + 1 => zero ++ repCells zero n

/-- The contents of a slice, as cells; of a string, its bytes. -/
def conts (O : List ABlk) (S : List (List ABlk)) (sz : Nat) (x : AV) : Option (List AV × Nat) :=
  match x with
  | .nils | .emp => some ([], 0)
  | .isl cs len => if cs.length = len * sz then some (cs, len) else none
  | .sref d k off len _ => match gm O S d k with
    | some (.arr cs) => if off + len * sz ≤ cs.length then some ((cs.drop off).take (len * sz), len) else none
    | _ => none
  | .bref d k off len tot => match gm O S d k with
    | some (.buf _ cs) => if cs.length = tot ∧ off + len * sz ≤ cs.length then some ((cs.drop off).take (len * sz), len) else none
    | _ => none
  | .str s => if sz = 1 then some (s.map fun b => .int .u8 b.toNat, s.length) else none
  | _ => none

def bnd (env : List AV) (x : Option Opd) (d : Nat) : Option Nat :=
  match x with
  | some x => nth (ev env x)
  | none => some d
def bounds (env : List AV) (lo hi : Option Opd) (len : Nat) : Option (Nat × Nat) :=
  match bnd env lo 0, bnd env hi len with
  | some l, some h => if l ≤ h ∧ h ≤ len then some (l, h) else none
  | _, _ => none

def bytesOf : List AV → Option (List UInt8)
  | [] => some []
  | .int .u8 n :: r => (bytesOf r).map (UInt8.ofNat n.toNat :: ·)
  | _ :: _ => none

def findE (q : SK) (k : AV) : List (AV × AV) → Option (Option AV)
  | [] => some none
  | (k', v) :: r => match eqCell q k k' with
    | some true => some (some v)
    | some false => findE q k r
    | none => none
def putE (q : SK) (k v : AV) : List (AV × AV) → List (AV × AV)
  | [] => [(k, v)]
  | (k', v') :: r => match eqCell q k k' with
    | some true => (k, v) :: r
    | _ => (k', v') :: putE q k v r

/-- A value handed out of the frame D: what lies in the frame's own blocks is taken along; addresses of the frame's own blocks cannot be. -/
def snap1 (S : List (List ABlk)) (v : AV) : Option AV :=
  match v with
  | .sref d k off len cap => if d = S.length then
      if len = 0 then some (.isl [] 0) else
      match gm [] S d k with
      | some (.arr cs) => if off = 0 ∧ len = cap ∧ cs.all (AV.low 0) = true then some (.isl cs len) else none
      | _ => none
    else some v
  | .bref d k off len tot => if d = S.length then
      if len = 0 then some (.isl [] 0) else
      match gm [] S d k with
      | some (.buf sz cs) => if cs.length = tot ∧ off = 0 ∧ len * sz = tot ∧ cs.all (AV.low 0) = true then some (.isl cs len) else none
      | _ => none
    else some v
  | .agg _ | .tup _ => none
  | v => if v.low S.length = true then some v else none
def snapL (S : List (List ABlk)) : List AV → Option (List AV)
  | [] => some []
  | v :: r => match snap1 S v, snapL S r with
    | some v', some r' => some (v' :: r')
    | _, _ => none
def snap2 (S : List (List ABlk)) (v : AV) : Option AV :=
  match v with
  | .agg cs => (snapL S cs).map .agg
  | v => snap1 S v
def snapT (S : List (List ABlk)) : List AV → Option (List AV)
  | [] => some []
  | v :: r => match snap2 S v, snapT S r with
    | some v', some r' => some (v' :: r')
    | _, _ => none
def snap (S : List (List ABlk)) (v : AV) : Option AV :=
  match v with
  | .tup vs => (snapT S vs).map .tup
  | v => snap2 S v

/-- The same, but a slice that the frame has grown moves to the frame below: 'Sb' is what lies below, as it is by then. -/
def move1 (S Sb : List (List ABlk)) (v : AV) : Option (AV × List (List ABlk)) :=
  match v with
  | .bref d k off len tot => if d = S.length then
      match gm [] S d k with
      | some (.buf sz cs) =>
        if cs.length = tot ∧ off = 0 ∧ len * sz = tot ∧ Sb.length ≠ 0 ∧ cs.all (AV.low (Sb.length + 1)) = true then
          some (.bref Sb.length (Sb.getLastD []).length 0 len tot, Sb.modify (Sb.length - 1) (· ++ [.buf sz cs]))
        else none
      | _ => none
    else some (v, Sb)
  | v => (snap2 S v).map (·, Sb)
def moveV (S : List (List ABlk)) (v : AV) : Option (AV × List (List ABlk)) :=
  match v with
  | .tup (v :: r) => match move1 S S.dropLast v with
    | some (v', Sb) => if r.all (AV.low S.length) = true then some (.tup (v' :: r), Sb) else none
    | none => none
  | .tup [] => none
  | v => move1 S S.dropLast v

/-- What some of the program's variables hold, from beginning to end. -/
class GTab where
  tab : Nat → Option (List AV)

end Den
