/- Contracts of the words of a memory: what an access does. -/
import Derived.Test.YtajcniofkpifaaaCodeT
import Derived.Test.YtajcniofkpifaaaDenGA
set_option maxRecDepth 100000
set_option linter.unusedSimpArgs false
set_option linter.unusedVariables false
namespace Den
open Go Go.Proofs

theorem bodyA {call : CallT} (hcall : CallsOk Try.prog call) {n : Nat} {f : FuncId} {F : AFn} (hF : cfgA.code f = some F) {args : List AV} {O : Mo} {S : Ms} {r : AV} {O' : Mo} {S' : Ms}
    (h : fin false F (exec cfgA call n F.body (enter F args O S)) = some (r, O', S')) : CallOk Try.prog f args O S r O' S' :=
  body cfgA_ok hcall (n := n) hF (by show fin false F _ = _; exact h)
def noCall : CallT := fun _ _ _ _ => none
theorem noCall_ok : CallsOk Try.prog noCall := fun _ _ _ _ _ _ _ h => by cases h
/-! Mem.zero -/
/-! Mem.Do -/
def accZ : AV := .agg [.int .i64 0, .int .i64 0, .int .u64 0, .int .u64 0]
def acc (kd w b a : Int) : AV := .agg [.int .i64 kd, .int .i64 w, .int .u64 b, .int .u64 a]
def errA (e : Int) : AV := .tup [accZ, .int .i64 e]
/-- What an access of a kind leaves of a word. -/
def after (kd x b a : Int) : Int := if kd = 2 ∨ kd = 4 ∨ (kd = 3 ∧ x = b) then a else x
end Den
