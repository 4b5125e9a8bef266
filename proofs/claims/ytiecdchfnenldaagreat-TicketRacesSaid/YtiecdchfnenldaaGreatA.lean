/- The program of the seat, as den reads it. -/
import Derived.Test.YtiecdchfnenldaaGreatChecked
import Derived.Lib.Strings
import Derived.Lib.Slices
import Derived.Lib.Walk
import Derived.Lib.Bytealg
import Derived.Test.YtiecdchfnenldaaGreatDenMeth
import Derived.Test.YtiecdchfnenldaaGreatDenFb
import Derived.Test.YtiecdchfnenldaaGreatDenPost
namespace Go.Proofs

set_option maxHeartbeats 1000000 in
set_option maxRecDepth 100000 in
/-- internal/bytealg.CompareString (what strings.Compare calls): IT RETURNS 'Lib.compareBytes a b'; the world is as it was. -/
theorem Tryz.bytealg_CompareString (a b : ByteArray) (w : World) :
    Calls Tryz.prog 131 #[.string a, .string b] w fun e w' => e = .returned (.int .i64 (Lib.compareBytes a.data.toList b.data.toList)) ∧ w' = w := by
  go_enter Tryz.func131, Tryz.ntmps131
  go_wp2
  rw [run_callFunc_extern Tryz.func140 (by kernel_rfl) (by kernel_rfl) (by kernel_rfl) (e := Extern.BytealgCompare.compare) (by kernel_rfl), Lib.run_compareString]
  simp only [Result.andThen]
  rw [Oper.upon_value]
  go_wp2
  go_ret
  exact ⟨rfl, rfl⟩

end Go.Proofs


namespace Den
open Go Go.Proofs

instance : GTab := ⟨fun _ => none⟩

def cmpP (args : List AV) (O : List ABlk) (S : List (List ABlk)) : Ans :=
  match args with
  | [.str a, .str b] => some (.int .i64 (Lib.compareBytes a b), O, S)
  | _ => none

theorem cmp_ok {args O S r O' S'} (h : cmpP args O S = some (r, O', S')) : CallOk Tryz.prog 131 args O S r O' S' := by
  unfold cmpP at h
  split at h
  · rename_i a b
    simp only [Option.some.injEq, Prod.mk.injEq] at h
    obtain ⟨rfl, rfl, rfl⟩ := h
    refine ⟨⟨Tryz.f131, Tryz.func131, by kernel_rfl, by kernel_rfl⟩, fun g w vs hs hl ha => ?_⟩
    obtain ⟨v0, e0, r0⟩ := ha 0 _ rfl
    obtain ⟨v1, e1, r1⟩ := ha 1 _ rfl
    cases r0; cases r1
    have hvs : vs = #[.string ⟨a.toArray⟩, .string ⟨b.toArray⟩] := by
      apply Array.ext_getElem?
      intro i
      match i with
      | 0 => exact e0
      | 1 => exact e1
      | i + 2 =>
        have : vs.size = 2 := hl
        rw [Array.getElem?_eq_none (by omega), Array.getElem?_eq_none (by simp)]
    subst hvs
    refine (Tryz.bytealg_CompareString _ _ w).mono fun e w' hh => ?_
    obtain ⟨rfl, rfl⟩ := hh
    exact ⟨g, _, rfl, hs, .refl .., .int⟩
  · cases h



noncomputable def primA (f : FuncId) : Option (List AV → List ABlk → List (List ABlk) → Ans) := bif Nat.beq f 131 then some cmpP else none
theorem primA_ok : ∀ f p, primA f = some p → ∀ args O S r O' S', p args O S = some (r, O', S') → CallOk Tryz.prog f args O S r O' S' := by
  intro f p h
  unfold primA at h
  cases hb : Nat.beq f 131 with
  | true => rw [hb] at h; cases h; rw [Nat.eq_of_beq_eq_true hb]; exact fun _ _ _ _ _ _ hp => cmp_ok hp
  | false => rw [hb] at h; cases h
def objA : FuncId → List Nat
  | 10 => [3, 4, 7, 8, 10, 11, 12, 57, 59, 60] | 101 => [8] | 120 => [27] | 158 => [9] | 159 => [3] | 170 => [3] | 19 => [2, 4, 21, 22, 26] | 21 => [3, 6, 20, 22, 23, 29, 31, 32] | 27 => [11, 13] | 3 => [7, 10, 58] | 30 => [19] | 32 => [19] | 33 => [81] | 35 => [30] | 36 => [19] | 38 => [11] | 4 => [6, 9, 78, 93, 94] | 40 => [13] | 42 => [3] | 49 => [58] | 58 => [3] | 6 => [5, 73, 74, 111, 112, 115, 116, 120, 125] | 61 => [63] | 66 => [24, 25] | 91 => [7] | 98 => [22] | 99 => [22]
  | _ => []
def bufA : FuncId → List Nat
  | 4 => [93] | 5 => [29, 63] | 6 => [115] | 11 => [22]
  | _ => []
def fcA (f : FuncId) : FC := { obj := objA f, buf := bufA f }
noncomputable def cfgA : Cfg := mkCfg Tryz.prog fcA primA (methOf Tryz.prog) (fun _ => false)
theorem cfgA_ok : CfgOk Tryz.prog cfgA := mkCfg_ok (by kernel_rfl) primA_ok (fun _ _ _ h v w => methOf_ok h v w)
noncomputable def noFp : FPr := fun _ => none
noncomputable def isT : KV := fun v _ _ => asBool v (fun b => b) false
theorem isT_ok {v : AV} {O : Mo} {S : Ms} (h : isT v O S = true) : v = .bool true := by
  unfold isT at h
  rw [asBool_eq] at h
  split at h
  · subst h; rfl
  · cases h
end Den
