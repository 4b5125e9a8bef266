/- Rules for slices: literals, appending, parts of slices, bytes. -/
import Derived.Test.YtajdklfckcgifaaGreatDenG3
set_option linter.unusedSectionVars false
set_option linter.unusedVariables false
set_option linter.unusedSimpArgs false
set_option linter.defProp false
set_option linter.unusedVariables false
set_option linter.unusedSimpArgs false
namespace Den
open Go

theorem rep1 (z : List AV) : repCells z 1 = z := by simp [repCells]
theorem rep0 (z : List AV) : repCells z 0 = [] := rfl
theorem bsl_int (k : IntKind) (n : Int) (O : Mo) (S : Ms) : bslC 1 1 false false (some [.int k n]) O S = some (.isl [.int k n] 1, O, S) := rfl
theorem c_isl1 (O : Mo) (S : Ms) (c : AV) : conts O S 1 (.isl [c] 1) = some ([c], 1) := rfl
/-! Bounds -/
def bndC (l h : Option Nat) (len : Nat) : Option (Nat × Nat) :=
  match l, h with
  | some l, some h => if l ≤ h ∧ h ≤ len then some (l, h) else none
  | _, _ => none
theorem bounds_eq (le : List AV) (lo hi : Option Opd) (len : Nat) : bounds le lo hi len = bndC (bnd le lo 0) (bnd le hi len) len := by
  simp only [bounds, bndC]; cases bnd le lo 0 <;> cases bnd le hi len <;> rfl
theorem bnd_some (le : List AV) (x : Opd) (d : Nat) : bnd le (some x) d = nth (ev le x) := rfl
theorem bnd_none (le : List AV) (d : Nat) : bnd le none d = some d := rfl
theorem bndC_P {l h len : Nat} (h1 : l ≤ h) (h2 : h ≤ len) : bndC (some l) (some h) len = some (l, h) := by simp [bndC, h1, h2]
def slNils (b : Option (Nat × Nat)) : Option AV :=
  match b with
  | some _ => some .nils
  | none => none
theorem s_nils (le : List AV) (lo hi : Option Opd) (sz : Nat) : slcA le lo hi sz .nils = slNils (bounds le lo hi 0) := rfl
theorem s_nilsS (p : Nat × Nat) : slNils (some p) = some .nils := rfl
/-! A slice that this frame grows from nothing, in the frame's first block -/
end Den
