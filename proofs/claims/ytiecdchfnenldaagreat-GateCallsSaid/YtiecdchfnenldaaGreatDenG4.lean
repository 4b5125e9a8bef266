/- Rules for slices: literals, appending, parts of slices, bytes. -/
import Derived.Test.YtiecdchfnenldaaGreatDenG3
set_option linter.unusedSectionVars false
set_option linter.unusedVariables false
set_option linter.unusedSimpArgs false
set_option linter.defProp false
set_option linter.unusedVariables false
set_option linter.unusedSimpArgs false
namespace Den
open Go

theorem rep1 (z : List AV) : repCells z 1 = z := by simp [repCells]
theorem rep0 (z : List AV) : repCells z 0 = [] := rfl
theorem bsl_int (k : IntKind) (n : Int) (O : Mo) (S : Ms) : bslC 1 1 false false (some [.int k n]) O S = some (.isl [.int k n] 1, O, S) := rfl
theorem c_isl1 (O : Mo) (S : Ms) (c : AV) : conts O S 1 (.isl [c] 1) = some ([c], 1) := rfl
theorem shr_P {a b : Int} {k' : IntKind} (h1 : 0 ≤ b) (h2 : b ≤ 64) (h3 : 0 ≤ a) : bin .shr (.int .u64 a) (.int k' b) = some (.int .u64 (a / 2 ^ b.toNat)) := by
  rw [b_shr, if_neg (by omega)]
  have e : min b.toNat IntKind.u64.bits = b.toNat := by simp [IntKind.bits]; omega
  rw [e]
  have : (2 : Int) ^ b.toNat = ((2 ^ b.toNat : Nat) : Int) := by simp
  rw [Int.fdiv_eq_ediv_of_nonneg a (by rw [this]; exact Int.natCast_nonneg _)]

/-! Bounds -/
def bndC (l h : Option Nat) (len : Nat) : Option (Nat × Nat) :=
  match l, h with
  | some l, some h => if l ≤ h ∧ h ≤ len then some (l, h) else none
  | _, _ => none
theorem bounds_eq (le : List AV) (lo hi : Option Opd) (len : Nat) : bounds le lo hi len = bndC (bnd le lo 0) (bnd le hi len) len := by
  simp only [bounds, bndC]; cases bnd le lo 0 <;> cases bnd le hi len <;> rfl
theorem bnd_some (le : List AV) (x : Opd) (d : Nat) : bnd le (some x) d = nth (ev le x) := rfl
theorem bnd_none (le : List AV) (d : Nat) : bnd le none d = some d := rfl
theorem bndC_P {l h len : Nat} (h1 : l ≤ h) (h2 : h ≤ len) : bndC (some l) (some h) len = some (l, h) := by simp [bndC, h1, h2]
def slB (b : Option (Nat × Nat)) (f : Nat → Nat → AV) : Option AV := b.map fun (l, h) => f l h
def slBref (b : Option (Nat × Nat)) (d k off tot sz : Nat) : Option AV :=
  match b with
  | some (l, h) => some (.bref d k (off + l * sz) (h - l) tot)
  | none => none
def slSref (b : Option (Nat × Nat)) (d k off cap sz : Nat) : Option AV :=
  match b with
  | some (l, h) => some (.sref d k (off + l * sz) (h - l) (cap - l))
  | none => none
def slIsl (b : Option (Nat × Nat)) (cs : List AV) (sz : Nat) : Option AV :=
  match b with
  | some (l, h) => some (.isl ((cs.drop (l * sz)).take ((h - l) * sz)) (h - l))
  | none => none
def slNils (b : Option (Nat × Nat)) : Option AV :=
  match b with
  | some _ => some .nils
  | none => none
theorem s_bref (le : List AV) (lo hi : Option Opd) (sz d k off len tot : Nat) : slcA le lo hi sz (.bref d k off len tot) = slBref (bounds le lo hi len) d k off tot sz := rfl
theorem s_sref (le : List AV) (lo hi : Option Opd) (sz d k off len cap : Nat) : slcA le lo hi sz (.sref d k off len cap) = slSref (bounds le lo hi len) d k off cap sz := rfl
theorem s_isl (le : List AV) (lo hi : Option Opd) (sz : Nat) (cs : List AV) (len : Nat) : slcA le lo hi sz (.isl cs len) = slIsl (bounds le lo hi len) cs sz := rfl
theorem s_nils (le : List AV) (lo hi : Option Opd) (sz : Nat) : slcA le lo hi sz .nils = slNils (bounds le lo hi 0) := rfl
theorem s_brefS (l h d k off tot sz : Nat) : slBref (some (l, h)) d k off tot sz = some (.bref d k (off + l * sz) (h - l) tot) := rfl
theorem s_srefS (l h d k off cap sz : Nat) : slSref (some (l, h)) d k off cap sz = some (.sref d k (off + l * sz) (h - l) (cap - l)) := rfl
theorem s_islS (l h sz : Nat) (cs : List AV) : slIsl (some (l, h)) cs sz = some (.isl ((cs.drop (l * sz)).take ((h - l) * sz)) (h - l)) := rfl
theorem s_nilsS (p : Nat × Nat) : slNils (some p) = some .nils := rfl
def slArr (b : Option (Nat × Nat)) (d k off n sz : Nat) : Option AV :=
  match b with
  | some (l, h) => some (.sref d k (off + l * sz) (h - l) (n - l))
  | none => none
theorem s_arr (n sz d k off : Nat) (b : Nat → Option (Nat × Nat)) : slcC (some n) sz (.ref d k off) b = slArr (b n) d k off n sz := by
  simp only [slcC, slArr]; cases b n <;> rfl
theorem s_arrS (l h d k off n sz : Nat) : slArr (some (l, h)) d k off n sz = some (.sref d k (off + l * sz) (h - l) (n - l)) := rfl

/-! A slice that this frame grows from nothing, in the frame's first block -/
def outV (B : Ms) (bs : List AV) : AV := if bs = [] then .nils else .bref (B.length + 1) 0 0 bs.length bs.length
def outF (bs : List AV) : List ABlk := if bs = [] then [] else [.buf 1 bs]
theorem outV_nil (B : Ms) : outV B [] = .nils := rfl
theorem outF_nil : outF [] = [] := rfl
theorem app_int (O : Mo) (B : Ms) (bs : List AV) (k : IntKind) (n : Int) (h : bs.length ≤ 1000000) : appC 1 1 false (outV B bs) (some ([.int k n], 1)) O (B ++ [outF bs]) = some (outV B (bs ++ [.int k n]), O, B ++ [outF (bs ++ [.int k n])]) := by
  by_cases hb : bs = []
  · subst hb
    simp [appC, outV, outF, appA, AV.low, m_newD, m_newK, m_newO, m_newS]
  · have h2 : ¬ (bs ++ [AV.int k n] = []) := by simp
    have h3 : (bs.length + 1) * 1 * 2 ≤ 140737488355328 := by omega
    simp only [appC, outV, outF, hb, h2, if_false, appA, gm_top]
    have : (bs.length + 1) * 2 ≤ 140737488355328 := by omega
    simp [AV.low, smO, smS_top, this]
theorem lenA_out (O : Mo) (S : Ms) (B : Ms) (bs : List AV) : lenA O S .slice (outV B bs) = some bs.length := by
  by_cases hb : bs = []
  · subst hb; rfl
  · simp [outV, hb, lenA]
theorem slcA_out (le : List AV) (lo hi : Option Opd) (B : Ms) {bs : List AV} (h : bs ≠ []) : slcA le lo hi 1 (outV B bs) = slBref (bounds le lo hi bs.length) (B.length + 1) 0 0 bs.length 1 := by
  simp only [outV, h, if_false, s_bref]
end Den
