/- What a row asks behind a call, where what was there is as it was. -/
import Derived.Test.YtajcniofkpifaaaDenTop
import Derived.ProofKit
set_option linter.unusedSectionVars false
set_option linter.unusedVariables false
set_option linter.unusedSimpArgs false
namespace Den
open Go Go.ChangeShapes
variable [GTab]

theorem Kept.frozen {W W' : World} (h : Kept W W') {b : Nat} (hb : b < W.heap.size) (off : Nat) (sp : Option _) : W'.frozen? ⟨b, off, sp⟩ = W.frozen? ⟨b, off, sp⟩ := by
  simp only [World.frozen?, h.old b hb]

theorem Kept.keptBut {W W' : World} (h : Kept W W') (may : MemPlace → Prop) : W.keptBut W' may := by
  refine ⟨h.io.1, h.io.2, fun i hi => ?_⟩
  have e := h.old i hi
  cases ho : W.heap[i]? with
  | none => rw [ho] at e; rw [e]
  | some o =>
    rw [ho] at e
    rw [e]
    cases o <;> simp

section
variable {H : Type} {enc : TypeId × Value → H} {P : Program}

/-- A row's demand, from what the readings are behind the call. -/
theorem post_kept {f : Func} {s : ChangeSpec} {apart fresh handsOn again : Bool} {W W' : World} {args : Array Value} {v : Value} {ds gs : List (DataW H)} {before pa pv : List MemPlace}
    (hW : DataW.Whole enc P f.params.toList s.vars apart W args.toList ds gs before) (hk : Kept W W')
    (hres : ∀ (b : Nat) (sp : Nat → Bool) (hd : Bool), DataW.TrodAll enc P W' b sp hd f.resultTypes.toList (v.resultList f.resultTypes.size) (s.fn H (ds ++ gs)).results [])
    (hargs : ∀ sp : Nat → Bool, (∀ p ∈ before, sp p.block = true) → DataW.TrodAll enc P W' 0 sp true f.params.toList args.toList (s.fn H (ds ++ gs)).args pa)
    (hvars : ∀ sp : Nat → Bool, (∀ p ∈ before, sp p.block = true) → DataW.TrodVars enc P W' sp s.vars (s.fn H (ds ++ gs)).vars pv)
    (hps : before = pa ++ pv)
    (hok : ∀ (j : Nat) (t : TypeId) (r : Value), f.resultTypes[j]? = some t → (v.resultList f.resultTypes.size)[j]? = some r → Value.okWide P W' .any 0 t r) :
    s.post enc P f apart fresh handsOn again W args v W' := by
  have hlt := hW.lt
  refine ⟨ds, gs, before, [], pa, pv, hW, hres _ _ _, hargs _ (fun p hp => by simpa using hlt p hp), hvars _ (fun p hp => by simpa using hlt p hp), hk.keptBut _, fun _ => ?_⟩
  obtain ⟨_, _, _, _, _, hz, hn⟩ := hW
  have hall : ([] ++ pa) ++ pv = before := by rw [hps]; rfl
  refine ⟨hok, _, _, ([] ++ pa) ++ pv, ⟨[] ++ pa, pv, trodAll_append (hargs _ (fun _ _ => rfl)) (hres _ _ _), hvars _ (fun _ _ => rfl), rfl, fun b off hp => ?_, fun ha => ?_⟩, fun p hp _ => ?_⟩
  · rw [hall] at hp
    have hb : b < W.heap.size := hlt _ hp
    have := hk.frozen hb off none
    exact this.trans (hz b off hp)
  · rw [hall]; exact hn ha
  · rw [hall] at hp; exact hp

end
end Den
