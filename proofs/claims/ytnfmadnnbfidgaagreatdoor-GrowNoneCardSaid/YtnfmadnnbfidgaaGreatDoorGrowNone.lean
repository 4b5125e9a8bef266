/-
  GrowNone returns true, whatever the state of the world is when it is called, as long as the table of the modes holds what the program's text lays: there are no inputs; nothing that was there is changed. No other condition.
-/
import Derived.Test.YtnfmadnnbfidgaaGreatDoorCards
import Derived.Test.YtnfmadnnbfidgaaGreatDoorLaid
import Derived.Test.YtnfmadnnbfidgaaGreatDoorMGr
set_option maxRecDepth 1000000
namespace Go.Proofs.YtnfmadnnbfidgaaGreatDoor.growNone
open Go.ChangeShapes Go.WideShapes Go.ChangeAt Go.RowKit Den
set_option linter.unusedVariables false

theorem own : ownKnob Tryz.prog.godebug = none := by kernel_rfl

/-- The run, reckoned out. -/
theorem run : fden Gr.cfg Gr.fp 1000000 4 [] [] [] isT = true := by kernel_rfl

theorem glob_ok {W : World} (h : laidMetH Tryz.prog [("ticketline/modes.fits", Rows.laid_ticketline_modes_fits)] W) : GlobOk (g0 W) W := fun n cs hn => by
  have hn1 : n = 1 ∧ cs = tab.map .bool := by
    change (if n = 1 then some (tab.map .bool) else none) = some cs at hn
    split at hn
    · rename_i e; cases hn; exact ⟨e, rfl⟩
    · cases hn
  obtain ⟨rfl, rfl⟩ := hn1
  refine ⟨laid_below h, fun i a ha => ?_⟩
  rw [List.getElem?_map] at ha
  cases hb : tab[i]? with
  | none => rw [hb] at ha; cases ha
  | some b =>
    rw [hb] at ha
    cases ha
    exact ⟨rfl, _, of_laid h i b hb, rfl⟩

theorem walk (W : World) (hL : laidMetH Tryz.prog [("ticketline/modes.fits", Rows.laid_ticketline_modes_fits)] W) : Calls Tryz.prog 4 #[] W fun e w' => e = .returned (.bool true) ∧ Kept W w' := by
  obtain ⟨r, O', S', h, hk⟩ := fden_ok Gr.cfg_ok Gr.fp_ok run
  obtain rfl := isT_ok hk
  exact h.topBool W #[] rfl (fun i x hx => by simp at hx) (glob_ok hL)

set_option maxRecDepth 100000 in
theorem lifted (os : Os) (started : os.Started) (H : Type) (enc : TypeId × Value → H) :
    ReturnsInHanded {} Tryz.checked os 4 .any (fun w args => (Rows.growNoneSpec.pre enc Tryz.prog Tryz.f4 [] false w args ∧ laidMetH Tryz.prog [("ticketline/modes.fits", Rows.laid_ticketline_modes_fits)] w) ∧ sizedMet enc Tryz.prog Tryz.f4 (OpenSpec.ofChange Rows.growNoneSpec) false w args)
      (Rows.growNoneSpec.post enc Tryz.prog Tryz.f4 false true false false) := by
  refine returnsInHanded_of_change_and (C := Tryz.checked) (X := fun w _ => laidMetH Tryz.prog [("ticketline/modes.fits", Rows.laid_ticketline_modes_fits)] w) (fun _ _ _ hh h => h.of_heap hh) own started (by kernel_rfl) Tryz.func4
    (ChangeSpec.witness_shaped (enc := enc) (C := Tryz.checked) (os := os) (X := fun w _ => laidMetH Tryz.prog [("ticketline/modes.fits", Rows.laid_ticketline_modes_fits)] w) false (World.laidAll Tryz.prog os [("ticketline/modes.fits", Rows.laid_ticketline_modes_fits)]) #[] 8 rfl (World.shaped_of_ZipB (by kernel_rfl) (by kernel_rfl)) (by kernel_rfl) (by kernel_rfl) (by kernel_rfl) (laid_met os _)) ?_
  intro W base args ds gs before hval0 hW _ _ hL _
  have hval : ∀ (j : Nat) t v, Tryz.f4.params[j]? = some t → args[j]? = some v → Value.okWide Tryz.prog W .any base t v := hval0
  have hW' := hW
  obtain ⟨p, q, hA0, hV, rfl, hfz, hnd⟩ := hW
  have hA : DataW.TrodAll enc Tryz.prog W 0 (fun _ => true) true Tryz.f4.params.toList args.toList ds p := hA0
  rw [Tryz.params4] at hA hval
  obtain ⟨rfl, rfl, rfl⟩ := trodAll_none hA
  obtain ⟨rfl, rfl⟩ := trodVars_none hV
  clear hA0 hval0
  simp only [List.append_nil] at hW'
  refine (walk W hL).mono fun e W' ⟨he, hg⟩ => ?_
  subst he
  exact ⟨_, rfl, post_kept (pa := []) (pv := []) hW' hg (fun _ _ _ => (trodAll_cons_mk (shut_bool Tryz.underlying4 _) trodAll_mk0)) (fun sp _ => rfl) (fun _ _ => rfl) rfl
    (ok_one (by kernel_rfl) rfl (okWide_bool_mk Tryz.underlying4 _))⟩

theorem over : Rows.GrowNoneSaid :=
  OpenClaim.holds_of_wide 4 Tryz.f4 rfl rfl rfl rfl rfl rfl rfl ⟨rfl, rfl, rfl, rfl, rfl⟩ rfl rfl rfl rfl rfl (by kernel_rfl) Tryz.func4 (by kernel_rfl)
    (of_decide_eq_true (by kernel_rfl)) (by unfold Func.isWrapper; first | (rw [if_pos (by decide +kernel)]; kernel_rfl) | (rw [if_neg (by decide +kernel)]; exact ⟨rfl, rfl⟩))
    (fun os started H enc _ => lifted os started H enc)

/-- The statement: the tied card. -/
theorem proved : Rows.GrowNoneCardSaid :=
  Claim7.holds_tied_plain_at .later [] [.data] true (true, "bc65c8efaac31d618c24cc98c2c8a19f54146abdde5359e12fcf6946947ad28a") true
    over (fun _ h => by cases h) (by kernel_rfl) (fun _ h => by cases h) growNone_row_tie rfl ⟨rfl, rfl⟩ (by kernel_rfl) rfl
    (fun f fn hf hfn => by
      obtain rfl : f = 4 := Option.some.inj ((show Tryz.prog.funcNamed Rows.growNoneRow.func = some 4 by kernel_rfl).symm.trans hf) |>.symm
      obtain rfl : fn = Tryz.f4 := (Option.some.inj (Tryz.func4.symm.trans hfn)).symm
      exact ⟨by kernel_rfl, fun j t ht => by
        rw [Tryz.params4] at ht
        simp at ht⟩)
    (by kernel_rfl)
end Go.Proofs.YtnfmadnnbfidgaaGreatDoor.growNone
