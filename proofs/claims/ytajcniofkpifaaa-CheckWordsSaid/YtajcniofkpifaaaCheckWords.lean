/-
  CheckWords returns true, whatever its arguments are: its contract, then the plain law of what it computes. No condition.
-/
import Derived.Test.YtajcniofkpifaaaRows
import Derived.Test.YtajcniofkpifaaaCkLawS
import Derived.Test.YtajcniofkpifaaaDenArgs
import Derived.ProofKit
import Derived.OpenShut
set_option maxRecDepth 1000000
namespace Go.Proofs.Ytajcniofkpifaaa.checkWords
open Go.ChangeShapes Go.WideShapes Go.ChangeAt Go.RowKit Den
set_option linter.unusedVariables false

theorem own : ownKnob Try.prog.godebug = none := by kernel_rfl
theorem laidOut : laidOutB Try.prog = true := by kernel_rfl

set_option maxRecDepth 100000 in
theorem lifted (os : Os) (started : os.Started) (H : Type) (enc : TypeId × Value → H) :
    ReturnsInHanded {} Try.checked os 3 .any (Rows.checkWordsSpec.pre6 enc Try.prog Try.f3 Rows.checkWordsRow.domain false) (Rows.checkWordsSpec.post enc Try.prog Try.f3 false true false false) := by
  refine returnsInHanded_of_change (C := Try.checked) own started (by kernel_rfl) Try.func3
    (ChangeSpec.witness6 (enc := enc) (C := Try.checked) false ⟨#[], #[.int .i64 0], []⟩ 8 (by kernel_rfl) (by kernel_rfl) (by kernel_rfl) (by kernel_rfl)) ?_
  intro W base args ds gs before hval0 hW hcnd _
  have hval : ∀ (j : Nat) t v, Try.f3.params[j]? = some t → args[j]? = some v → Value.okWide Try.prog W .any base t v := hval0
  have hW' := hW
  obtain ⟨p, q, hA0, hV, rfl, hfz, hnd⟩ := hW
  have hA : DataW.TrodAll enc Try.prog W 0 (fun _ => true) true Try.f3.params.toList args.toList ds p := hA0
  have hA1 := hA
  rw [Try.params3] at hA hval
  obtain ⟨v0, vs0, d0, ds0, p0, q0, hargs, rfl, rfl, h0, r0⟩ := trodAll_cons hA
  obtain ⟨rfl, rfl, rfl⟩ := trodAll_nil r0
  obtain rfl : args = #[v0] := by cases args; simp_all
  obtain ⟨rfl, rfl⟩ := trodVars_none hV
  obtain ⟨as0, s0, x0⟩ := open_par (n := 10) (T := .int .i64) (by kernel_rfl) (hval 0 3 v0 rfl rfl) h0
  obtain ⟨O', S', h⟩ := Den.checkWords_law as0 s0
  refine (h.topBool W #[v0] rfl (fun i x hx => ?_) (.none fun _ => rfl)).mono fun e W' ⟨he, hg⟩ => ?_
  · match i, hx with
    | 0, hx => cases hx; exact ⟨_, rfl, x0⟩
    | i + 1, hx => simp at hx
  subst he
  exact ⟨_, rfl, post_kept (pv := []) hW' hg (fun _ _ _ => (trodAll_cons_mk (shut_bool Try.underlying4 _) trodAll_mk0))
    (fun sp hsp => trodAll_stays laidOut hg (by kernel_rfl) hA1 (fun x hx => hW'.lt x (List.mem_append_left _ hx)) (fun x hx => hsp x (List.mem_append_left _ hx))) (fun _ _ => rfl) rfl
    (ok_one (by kernel_rfl) rfl (okWide_bool_mk Try.underlying4 _))⟩

theorem over : Rows.checkWordsRow.holds Try.pinned (OpenSpec.ofChange Rows.checkWordsSpec) :=
  OpenClaim.holds_of_wide 3 Try.f3 rfl rfl rfl rfl rfl rfl rfl ⟨rfl, rfl, rfl, rfl, rfl⟩ rfl rfl rfl rfl rfl (by kernel_rfl) Try.func3 (by kernel_rfl)
    (of_decide_eq_true (by kernel_rfl)) (by unfold Func.isWrapper; first | (rw [if_pos (by decide +kernel)]; kernel_rfl) | (rw [if_neg (by decide +kernel)]; exact ⟨rfl, rfl⟩))
    (fun os started H enc _ => lifted os started H enc)

/-- The statement. -/
theorem proved : Rows.CheckWordsSaid := over
end Go.Proofs.Ytajcniofkpifaaa.checkWords
