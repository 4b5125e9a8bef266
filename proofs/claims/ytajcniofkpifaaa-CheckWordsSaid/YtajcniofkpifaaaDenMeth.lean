/- The functions behind methods of pointers. -/
import Derived.Test.YtajcniofkpifaaaDenTop
set_option linter.unusedSectionVars false
set_option linter.unusedVariables false
set_option linter.unusedSimpArgs false
namespace Den
open Go
variable [GTab]

def methOf (P : Program) (t : TypeId) (name : String) : Option FuncId :=
  match P.info? t, P.underlying t with
  | some i, some (.pointer _) => match i.methods.find? (·.name == name) with
    | some m => if m.path.isEmpty then match m.func with
      | some (f, true) => some f
      | _ => none
      else none
    | none => none
  | _, _ => none

theorem methOf_ok {P : Program} {t : TypeId} {name : String} {f : FuncId} (h : methOf P t name = some f) (v : Value) (w : World) : (method (P.types.size + Made.depth) t v name).run P w = .ok (f, v) w := by
  unfold methOf at h
  split at h
  · rename_i i e hi hu
    split at h
    · rename_i m hm
      split at h
      · rename_i hp
        split at h
        · rename_i f' hf
          cases h
          have hp' : m.path.toList = [] := by
            have : m.path = #[] := by simpa using hp
            rw [this]
          have hd : P.types.size + Made.depth = (P.types.size + 99) + 1 := rfl
          rw [hd]
          unfold method
          simp only [Sem.run_bind, run_typeInfo_D hi, Result.andThen_ok, hm, hp', follow, Sem.run_pure, hf, receiverAt, run_underlying_D hu, Place.get]
        · cases h
      · cases h
    · cases h
  · cases h
end Den
