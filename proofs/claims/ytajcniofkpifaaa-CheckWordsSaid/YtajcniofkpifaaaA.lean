/- The program of the seat, as den reads it. -/
import Derived.Test.YtajcniofkpifaaaChecked
import Derived.Lib.Strings
import Derived.Lib.Slices
import Derived.Lib.Walk
import Derived.Lib.Bytealg
import Derived.Test.YtajcniofkpifaaaDenMeth
import Derived.Test.YtajcniofkpifaaaDenFb
import Derived.Test.YtajcniofkpifaaaDenPost
namespace Go.Proofs

set_option maxHeartbeats 1000000 in
set_option maxRecDepth 100000 in
/-- internal/bytealg.CompareString (what strings.Compare calls): IT RETURNS 'Lib.compareBytes a b'; the world is as it was. -/
theorem Try.bytealg_CompareString (a b : ByteArray) (w : World) :
    Calls Try.prog 90 #[.string a, .string b] w fun e w' => e = .returned (.int .i64 (Lib.compareBytes a.data.toList b.data.toList)) ∧ w' = w := by
  go_enter Try.func90, Try.ntmps90
  go_wp2
  rw [run_callFunc_extern Try.func91 (by kernel_rfl) (by kernel_rfl) (by kernel_rfl) (e := Extern.BytealgCompare.compare) (by kernel_rfl), Lib.run_compareString]
  simp only [Result.andThen]
  rw [Oper.upon_value]
  go_wp2
  go_ret
  exact ⟨rfl, rfl⟩

end Go.Proofs


namespace Den
open Go Go.Proofs

instance : GTab := ⟨fun _ => none⟩

def cmpP (args : List AV) (O : List ABlk) (S : List (List ABlk)) : Ans :=
  match args with
  | [.str a, .str b] => some (.int .i64 (Lib.compareBytes a b), O, S)
  | _ => none

theorem cmp_ok {args O S r O' S'} (h : cmpP args O S = some (r, O', S')) : CallOk Try.prog 90 args O S r O' S' := by
  unfold cmpP at h
  split at h
  · rename_i a b
    simp only [Option.some.injEq, Prod.mk.injEq] at h
    obtain ⟨rfl, rfl, rfl⟩ := h
    refine ⟨⟨Try.f90, Try.func90, by kernel_rfl, by kernel_rfl⟩, fun g w vs hs hl ha => ?_⟩
    obtain ⟨v0, e0, r0⟩ := ha 0 _ rfl
    obtain ⟨v1, e1, r1⟩ := ha 1 _ rfl
    cases r0; cases r1
    have hvs : vs = #[.string ⟨a.toArray⟩, .string ⟨b.toArray⟩] := by
      apply Array.ext_getElem?
      intro i
      match i with
      | 0 => exact e0
      | 1 => exact e1
      | i + 2 =>
        have : vs.size = 2 := hl
        rw [Array.getElem?_eq_none (by omega), Array.getElem?_eq_none (by simp)]
    subst hvs
    refine (Try.bytealg_CompareString _ _ w).mono fun e w' hh => ?_
    obtain ⟨rfl, rfl⟩ := hh
    exact ⟨g, _, rfl, hs, .refl .., .int⟩
  · cases h



noncomputable def primA (f : FuncId) : Option (List AV → List ABlk → List (List ABlk) → Ans) := bif Nat.beq f 90 then some cmpP else none
theorem primA_ok : ∀ f p, primA f = some p → ∀ args O S r O' S', p args O S = some (r, O', S') → CallOk Try.prog f args O S r O' S' := by
  intro f p h
  unfold primA at h
  cases hb : Nat.beq f 90 with
  | true => rw [hb] at h; cases h; rw [Nat.eq_of_beq_eq_true hb]; exact fun _ _ _ _ _ _ hp => cmp_ok hp
  | false => rw [hb] at h; cases h
def objA : FuncId → List Nat
  | 17 => [9] | 21 => [27, 29] | 29 => [11, 13] | 30 => [63] | 41 => [43] | 52 => [11] | 70 => [7]
  | _ => []
def bufA : FuncId → List Nat
  
  | _ => []
def fcA (f : FuncId) : FC := { obj := objA f, buf := bufA f }
noncomputable def cfgA : Cfg := mkCfg Try.prog fcA primA (methOf Try.prog) (fun _ => false)
theorem cfgA_ok : CfgOk Try.prog cfgA := mkCfg_ok (by kernel_rfl) primA_ok (fun _ _ _ h v w => methOf_ok h v w)
noncomputable def noFp : FPr := fun _ => none
noncomputable def isT : KV := fun v _ _ => asBool v (fun b => b) false
theorem isT_ok {v : AV} {O : Mo} {S : Ms} (h : isT v O S = true) : v = .bool true := by
  unfold isT at h
  rw [asBool_eq] at h
  split at h
  · subst h; rfl
  · cases h
end Den
