/- CheckNil. -/
import Derived.Test.YtajcniofkpifaaaKnown23
import Derived.Test.YtajcniofkpifaaaCodeW
import Derived.Test.YtajcniofkpifaaaDenGA
import Derived.Test.YtajcniofkpifaaaDenArgs
set_option maxRecDepth 1000000
set_option maxHeartbeats 4000000
set_option linter.unusedSimpArgs false
set_option linter.unusedVariables false
namespace Den
open Go Go.Proofs

/-- The program, the examples taken as they come out. -/
def knP (args : List AV) (O : Mo) (S : Ms) : Ans := match args with
  | [] => some (.bool true, O, S)
  | _ => none
theorem knP_ok {args O S r O' S'} (h : knP args O S = some (r, O', S')) : CallOk Try.prog 7 args O S r O' S' := by
  unfold knP at h
  split at h
  · cases h; exact known_ofS known23_run O S
  · cases h
noncomputable def primN (f : FuncId) : Option U.Prm := bif Nat.beq f 7 then some knP else primS f
theorem primN_ok : ∀ f p, primN f = some p → ∀ args O S r O' S', p args O S = some (r, O', S') → CallOk Try.prog f args O S r O' S' := by
  intro f p h args O S r O' S' hp
  unfold primN at h
  cases h1 : Nat.beq f 7 with
  | true =>
    rw [h1] at h
    simp only [cond_true, Option.some.injEq] at h; subst h
    rw [Nat.eq_of_beq_eq_true h1]; exact knP_ok hp
  | false => rw [h1] at h; exact primS_ok f p h args O S r O' S' hp
noncomputable def cfgN : Cfg := { cfgA with prim := primN }
theorem cfgN_ok : CfgOk Try.prog cfgN where
  mixed := cfgA_ok.mixed
  code := cfgA_ok.code
  prim f p h := primN_ok f p h
  meth := cfgA_ok.meth
theorem noFpN_ok : FpOk cfgN noFp := fun _ _ h => by cases h
abbrev RunN (f : FuncId) (args : List AV) : Prop := fden cfgN noFp 1000000 f args [] [] isT = true
theorem RunN.ok {f : FuncId} {args : List AV} (h : RunN f args) : ∃ O' S', CallOk Try.prog f args [] [] (.bool true) O' S' := by
  obtain ⟨r, O', S', h, hk⟩ := fden_ok cfgN_ok noFpN_ok h
  obtain rfl := isT_ok hk
  exact ⟨O', S', h⟩
theorem cn_t : fden cfgN noFp 1000000 4 [.bool true] [] [] isT = true := by kernel_rfl
theorem cn_f : fden cfgN noFp 1000000 4 [.bool false] [] [] isT = true := by kernel_rfl
/-- The law. -/
theorem checkNil_law (a0 : List AV) (s0 : Shp .bool a0) :
    ∃ O' S', CallOk Try.prog 4 [parV .bool a0] [] [] (.bool true) O' S' := by
  obtain ⟨b, rfl⟩ := s0
  cases b with
  | true => exact RunN.ok cn_t
  | false => exact RunN.ok cn_f
end Den
