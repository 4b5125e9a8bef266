/- The program of the seat, as den reads it. -/
import Derived.Test.YtnfmadnnbfidgaaGreatChecked
import Derived.Test.YtnfmadnnbfidgaaGreatDenMeth
import Derived.Test.YtnfmadnnbfidgaaGreatDenFb
import Derived.Test.YtnfmadnnbfidgaaGreatDenPost
namespace Den
open Go Go.Proofs

instance : GTab := ⟨fun _ => none⟩
def objA : FuncId → List Nat
  | 105 => [7] | 108 => [3] | 109 => [23] | 112 => [63] | 117 => [8] | 122 => [18] | 129 => [16] | 139 => [7] | 147 => [11] | 15 => [3] | 161 => [22] | 163 => [22] | 168 => [27] | 169 => [57] | 18 => [29] | 212 => [9] | 219 => [3] | 223 => [3] | 229 => [3, 26, 31] | 24 => [3] | 244 => [33] | 249 => [53] | 257 => [15] | 272 => [3] | 282 => [3] | 29 => [3] | 33 => [3] | 37 => [3] | 40 => [131] | 44 => [3] | 48 => [45, 104] | 5 => [11, 13] | 52 => [7] | 59 => [48] | 73 => [25] | 87 => [28] | 88 => [61]
  | _ => []
def bufA : FuncId → List Nat
  | 3 => [27, 72] | 4 => [41, 75, 130, 164] | 240 => [17]
  | _ => []
def fcA (f : FuncId) : FC := { obj := objA f, buf := bufA f }
noncomputable def cfgA : Cfg := mkCfg Tryz.prog fcA (fun _ => none) (methOf Tryz.prog) (fun _ => false)
theorem cfgA_ok : CfgOk Tryz.prog cfgA := mkCfg_ok (by kernel_rfl) (fun _ _ h => by cases h) (fun _ _ _ h v w => methOf_ok h v w)
noncomputable def noFp : FPr := fun _ => none
noncomputable def isT : KV := fun v _ _ => asBool v (fun b => b) false
theorem isT_ok {v : AV} {O : Mo} {S : Ms} (h : isT v O S = true) : v = .bool true := by
  unfold isT at h
  rw [asBool_eq] at h
  split at h
  · subst h; rfl
  · cases h
end Den
