/- A closed run, wherever it is. -/
import Derived.Test.YtajdklfckcgifaaGreatL
import Derived.Test.YtajdklfckcgifaaGreatDenTop2
import Derived.Test.YtajdklfckcgifaaGreatDenG5
set_option maxRecDepth 1000000
namespace Den
open Go Go.Proofs

theorem known_of {f : FuncId} (h : fden cfgL noFp 1000000 f [] [] [] isT = true) (O : Mo) (S : Ms) : CallOk Tryz.prog f [] O S (.bool true) O S := by
  obtain ⟨r, O', S', h, hk⟩ := fden_ok cfgL_ok noFp_ok h
  obtain rfl := isT_ok hk
  exact h.anywhere rfl rfl O S
end Den

/- The examples of the chapter 27, run. -/
set_option maxRecDepth 1000000
namespace Den
open Go Go.Proofs

theorem known27_run : fden cfgL noFp 1000000 10 [] [] [] isT = true := by kernel_rfl
/-- The examples say yes. -/
def known27S : Sp := fun args O =>
  match args with
  | [] => some (.bool true, O)
  | _ => none
theorem known27S_ok : SpOk Tryz.prog 10 known27S := by
  intro args O r O' hh S
  unfold known27S at hh
  split at hh
  · cases hh; exact known_of known27_run O S
  · cases hh
end Den
