/- What a program's calls come to, seen from outside. -/
import Derived.Test.YtajcniofkpifaaaDenAny
set_option linter.unusedSectionVars false
set_option linter.unusedVariables false
set_option linter.unusedSimpArgs false
namespace Den
open Go
variable [GTab]

/-- The reading of a program. -/
def mkCfg (P : Program) (fcs : FuncId → FC) (prim : FuncId → Option (List AV → List ABlk → List (List ABlk) → Ans)) (meth : TypeId → String → Option FuncId) (own : FuncId → Bool) : Cfg where
  code f := match P.funcs[f]? with
    | some fn => if fn.body.isSome && !(fn.name == "runtime.NumGoroutine") then cfun P (fcs f) fn else none
    | none => none
  prim := prim
  meth := meth
  own := own

theorem mkCfg_ok {P : Program} {fcs prim meth own} (hm : P.follows .mixedOrders = true)
    (hp : ∀ f p, prim f = some p → ∀ args O S r O' S', p args O S = some (r, O', S') → CallOk P f args O S r O' S')
    (hme : ∀ t name f, meth t name = some f → ∀ v w, (method (P.types.size + Made.depth) t v name).run P w = .ok (f, v) w) : CfgOk P (mkCfg P fcs prim meth own) where
  mixed := hm
  code f F h := by
    simp only [mkCfg] at h
    split at h
    · rename_i fn hf
      split at h
      · rename_i hc
        simp only [Bool.and_eq_true, Bool.not_eq_true'] at hc
        exact ⟨⟨fn, hf, hc.1, hc.2⟩, fn, fcs f, hf, h⟩
      · cases h
    · cases h
  prim := hp
  meth := hme

/-- Nothing is known of what was there. -/
def g0 (w : World) : Gh := ⟨w.heap.size, fun _ => .garb, fun _ _ => .un⟩

theorem Sim.g0 (w : World) (hg : GlobOk (Den.g0 w) w) : Sim (g0 w) [] [] w where
  base_le := Nat.le_refl _
  fresh _ _ := rfl
  low _ _ := rfl
  own d k c := by simp [Den.g0]
  dom d k h := absurd rfl h
  blk d k c b h := by simp [Den.g0] at h
  nilb d k h := by simp [Den.g0] at h
  glob := hg

/-- Nothing is known of the variables. -/
theorem GlobOk.none {g : Gh} {w : World} (h : ∀ n, GTab.tab n = none) : GlobOk g w := fun n cs hn => by rw [h n] at hn; cases hn

/-- What was there is as it was. -/
structure Kept (w w' : World) : Prop where
  io : w'.os = w.os ∧ w'.output = w.output
  size : w.heap.size ≤ w'.heap.size
  old : ∀ c, c < w.heap.size → w'.heap[c]? = w.heap[c]?

theorem CallOk.top {P : Program} {f : FuncId} {args : List AV} {r : AV} {O' : List ABlk} {S' : List (List ABlk)} (h : CallOk P f args [] [] r O' S') (w : World) (vs : Array Value)
    (hl : vs.size = args.length) (ha : ∀ (i : Nat) (x : AV), args[i]? = some x → ∃ v, vs[i]? = some v ∧ VR (g0 w) [] [] w 1 x v) (hg : GlobOk (g0 w) w) :
    Calls P f vs w fun e w' => ∃ g' v, e = .returned v ∧ VR g' O' S' w' 1 r v ∧ Kept w w' := by
  refine (h.2 (g0 w) w vs (Sim.g0 w hg) hl ha).mono fun e w' hh => ?_
  obtain ⟨g', v, rfl, _, h2, h3⟩ := hh
  exact ⟨g', v, rfl, h3, h2.mon.io, h2.mon.size, fun c hc => h2.mon.old c hc⟩

theorem CallOk.topBool {P : Program} {f : FuncId} {args : List AV} {b : Bool} {O' : List ABlk} {S' : List (List ABlk)} (h : CallOk P f args [] [] (.bool b) O' S') (w : World) (vs : Array Value)
    (hl : vs.size = args.length) (ha : ∀ (i : Nat) (x : AV), args[i]? = some x → ∃ v, vs[i]? = some v ∧ VR (g0 w) [] [] w 1 x v) (hg : GlobOk (g0 w) w) :
    Calls P f vs w fun e w' => e = .returned (.bool b) ∧ Kept w w' :=
  (h.top w vs hl ha hg).mono fun e w' hh => by
    obtain ⟨g', v, rfl, h1, h2⟩ := hh
    cases h1
    exact ⟨rfl, h2⟩

end Den
