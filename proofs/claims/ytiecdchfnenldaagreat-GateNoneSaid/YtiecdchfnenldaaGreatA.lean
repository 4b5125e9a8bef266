/- The program of the seat Tryz, as den reads it. -/
import Derived.Test.YtiecdchfnenldaaGreatChecked
import Derived.Test.YtiecdchfnenldaaGreatDenMeth
import Derived.Test.YtiecdchfnenldaaGreatDenFb
import Derived.Test.YtiecdchfnenldaaGreatDenPost
namespace Den
open Go Go.Proofs

def objA : FuncId → List Nat
  | 10 => [57, 59, 60] | 19 => [22, 26] | 21 => [23, 32] | 27 => [11, 13] | 30 => [19] | 32 => [19] | 33 => [81] | 35 => [30] | 36 => [19] | 38 => [11] | 40 => [13] | 42 => [3] | 49 => [58] | 58 => [3] | 61 => [63] | 91 => [7] | 98 => [22] | 99 => [22] | 101 => [8] | 120 => [27] | 158 => [9] | 159 => [3] | 170 => [3]
  | _ => []
def bufA : FuncId → List Nat
  | 11 => [22] | 5 => [29, 63]
  | _ => []
def fcA (f : FuncId) : FC := { obj := objA f, buf := bufA f }
noncomputable def cfgA : Cfg := mkCfg Tryz.prog fcA (fun _ => none) (methOf Tryz.prog) (fun _ => false)
theorem cfgA_ok : CfgOk Tryz.prog cfgA := mkCfg_ok (by kernel_rfl) (fun _ _ h => by cases h) (fun _ _ _ h v w => methOf_ok h v w)
noncomputable def noFp : FPr := fun _ => none
theorem noFp_ok : FpOk cfgA noFp := fun _ _ h => by cases h
noncomputable def isT : KV := fun v _ _ => asBool v (fun b => b) false
theorem isT_ok {v : AV} {O : Mo} {S : Ms} (h : isT v O S = true) : v = .bool true := by
  unfold isT at h
  rw [asBool_eq] at h
  split at h
  · subst h; rfl
  · cases h
end Den
