/- The examples of the chapter 23, run, its greater parts before. -/
import Derived.Test.YtajcniofkpifaaaMFb
import Derived.Test.YtajcniofkpifaaaDenTop2
set_option maxRecDepth 1000000
set_option maxHeartbeats 4000000
namespace Den
open Go Go.Proofs

noncomputable def fpC : FPr := fun f => bif Nat.beq f 10 then Fb.fp f else bif Nat.beq f 11 then Fb.fp f else Fa.fp f
theorem fpC_ok : FpOk Fb.cfg fpC := by
  intro f g h
  unfold fpC at h
  cases h1 : Nat.beq f 10 with
  | true => rw [h1] at h; exact Fb.fp_ok f g h
  | false =>
    cases h2 : Nat.beq f 11 with
    | true => rw [h1, h2] at h; exact Fb.fp_ok f g h
    | false =>
      rw [h1, h2] at h
      obtain ⟨p, hp, hq⟩ := Fa.fp_ok f g h
      refine ⟨p, ?_, hq⟩
      show Fb.prim f = some p
      unfold Fb.prim
      rw [h1, h2]; exact hp
theorem known23_run : fden Fb.cfg fpC 1000000 7 [] [] [] isT = true := by kernel_rfl
theorem known_ofS {f : FuncId} (h : fden Fb.cfg fpC 1000000 f [] [] [] isT = true) (O : Mo) (S : Ms) : CallOk Try.prog f [] O S (.bool true) O S := by
  obtain ⟨r, O', S', h, hk⟩ := fden_ok Fb.cfg_ok fpC_ok h
  obtain rfl := isT_ok hk
  exact h.anywhere rfl rfl O S
end Den
