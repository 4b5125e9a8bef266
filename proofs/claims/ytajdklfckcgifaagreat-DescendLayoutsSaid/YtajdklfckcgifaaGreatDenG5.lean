/- Rules for objects: what lies at depth 0. -/
import Derived.Test.YtajdklfckcgifaaGreatDenG4
set_option linter.unusedSectionVars false
set_option linter.unusedVariables false
set_option linter.unusedSimpArgs false
namespace Den
open Go

abbrev CallT := FuncId → List AV → List ABlk → List (List ABlk) → Ans
/-- What a function does to objects alone, whatever frames there are. -/
abbrev Sp := List AV → Mo → Option (AV × Mo)
def spC (o : Option (AV × Mo)) (S : Ms) : Ans := o.map fun p => (p.1, p.2, S)
theorem spC_some (r : AV) (O : Mo) (S : Ms) : spC (some (r, O)) S = some (r, O, S) := rfl
section
variable [GTab]
def CallsOk (P : Program) (call : CallT) : Prop := ∀ f args O S r O' S', call f args O S = some (r, O', S') → CallOk P f args O S r O' S'
/-- A function is what a specification says. -/
def SpOk (P : Program) (f : FuncId) (sp : Sp) : Prop := ∀ args O r O', sp args O = some (r, O') → ∀ S, CallOk P f args O S r O' S
end
theorem gm_0 (O : Mo) (S : Ms) (k : Nat) : gm O S 0 k = O[k]? := rfl
theorem set_self {O : Mo} {k : Nat} {b c : ABlk} (h : O[k]? = some c) : (O.set k b)[k]? = some b := by
  have := (List.getElem?_eq_some_iff.1 h).1
  simp [this]
theorem set_ne {O : Mo} {k k2 : Nat} {b c : ABlk} (h : O[k]? = some c) (hne : k2 ≠ k) : (O.set k2 b)[k]? = some c := by
  rw [List.getElem?_set_ne hne]; exact h
theorem app_old {O : Mo} {k : Nat} {b c : ABlk} (h : O[k]? = some c) : (O ++ [b])[k]? = some c := by
  rw [List.getElem?_append_left (List.getElem?_eq_some_iff.1 h).1]; exact h
/-! Stores into objects -/
def stO (o : Option ABlk) (sz off : Nat) (x : AV) (O : Mo) (S : Ms) (k : Nat) : Option (Mo × Ms) :=
  match o with
  | some (.arr cs) => if x.okv = true ∧ x.cells.length = sz ∧ off + sz ≤ cs.length ∧ x.low 1 = true then some (O.set k (.arr (putAt cs off x.cells)), S) else none
  | _ => none
theorem m_stO (O : Mo) (S : Ms) (sz k off : Nat) (x : AV) : ast O S sz (.ref 0 k off) x = stO O[k]? sz off x O S k := by
  simp only [ast, gm_0, stO]
  cases O[k]? with
  | none => rfl
  | some b =>
    cases b <;> (try rfl)
def stOB (o : Option ABlk) (sz off tot : Nat) (x : AV) (O : Mo) (S : Ms) (k : Nat) : Option (Mo × Ms) :=
  match o with
  | some (.buf s cs) => if cs.length = tot ∧ x.okv = true ∧ x.cells.length = sz ∧ off + sz ≤ cs.length ∧ x.low 1 = true then some (O.set k (.buf s (putAt cs off x.cells)), S) else none
  | _ => none
theorem m_stOB (O : Mo) (S : Ms) (sz k off tot : Nat) (x : AV) : ast O S sz (.bptr 0 k off tot) x = stOB O[k]? sz off tot x O S k := by
  simp only [ast, gm_0, stOB]
  cases O[k]? with
  | none => rfl
  | some b =>
    cases b <;> (try rfl)
theorem stO_one {x : AV} {off : Nat} {cs : List AV} {O : Mo} {S : Ms} {k : Nat} (h1 : x.one = true) (h2 : off < cs.length) (h3 : x.low 1 = true) : stO (some (.arr cs)) 1 off x O S k = some (O.set k (.arr (cs.set off x)), S) := by
  have h2' : off + 1 ≤ cs.length := h2
  simp [stO, one_okv h1, one_cells h1, h2', h3, putAt_one _ _ _ h2]
theorem stOB_one {x : AV} {s off tot : Nat} {cs : List AV} {O : Mo} {S : Ms} {k : Nat} (h1 : x.one = true) (h2 : off < cs.length) (h3 : x.low 1 = true) (h4 : cs.length = tot) : stOB (some (.buf s cs)) 1 off tot x O S k = some (O.set k (.buf s (cs.set off x)), S) := by
  subst h4
  have h2' : off + 1 ≤ cs.length := h2
  simp [stOB, one_okv h1, one_cells h1, h2', h3, putAt_one _ _ _ h2]
theorem stO_agg {xs : List AV} {sz off : Nat} {cs : List AV} {O : Mo} {S : Ms} {k : Nat} (h1 : xs.length = sz) (h2 : off + sz ≤ cs.length) (h3 : (AV.agg xs).low 1 = true) : stO (some (.arr cs)) sz off (.agg xs) O S k = some (O.set k (.arr (putAt cs off xs)), S) := by
  simp [stO, AV.okv, AV.cells, h1, h2, h3]
theorem stOB_int {k' : IntKind} {n : Int} {s off tot : Nat} {cs : List AV} {O : Mo} {S : Ms} {k : Nat} (h2 : off < cs.length) (h4 : cs.length = tot) : stOB (some (.buf s cs)) 1 off tot (.int k' n) O S k = some (O.set k (.buf s (cs.set off (.int k' n))), S) := stOB_one rfl h2 rfl h4
theorem m_aldBS {sz s off i : Nat} {agg : Bool} {cs : List AV} {v : AV} : aldP (some (.buf s (cs.set i v))) sz agg off cs.length = takeV sz agg ((cs.set i v).drop off) := m_aldBP (by simp)
/-! A memory's words -/
def memO (O : Mo) (k off : Nat) : Option (Nat × List AV) :=
  match O[k]? with
  | some (.arr cs) => match cs[off]? with
    | some (.bref 0 k2 0 len tot) => match O[k2]? with
      | some (.buf 1 ws) => if len = tot ∧ ws.length = tot then some (k2, ws) else none
      | _ => none
    | _ => none
  | _ => none
structure MemO (O : Mo) (k off k2 : Nat) (cs ws : List AV) : Prop where
  obj : O[k]? = some (.arr cs)
  cell : cs[off]? = some (.bref 0 k2 0 ws.length ws.length)
  buf : O[k2]? = some (.buf 1 ws)
theorem memO_at {O : Mo} {k off k2 : Nat} {ws : List AV} (h : memO O k off = some (k2, ws)) : ∃ cs, MemO O k off k2 cs ws := by
  unfold memO at h
  split at h
  · rename_i cs hg
    split at h
    · rename_i k2' len tot hc
      split at h
      · rename_i ws' hb
        split at h
        · rename_i hl
          simp only [Option.some.injEq, Prod.mk.injEq] at h
          obtain ⟨rfl, rfl⟩ := h
          obtain ⟨rfl, h2⟩ := hl
          subst h2
          exact ⟨cs, hg, hc, hb⟩
        · cases h
      · cases h
    · cases h
  · cases h
theorem MemO.memO {O : Mo} {k off k2 : Nat} {cs ws : List AV} (h : MemO O k off k2 cs ws) : memO O k off = some (k2, ws) := by
  simp [Den.memO, h.obj, h.cell, h.buf]
theorem MemO.ne {O : Mo} {k off k2 : Nat} {cs ws : List AV} (h : MemO O k off k2 cs ws) : k ≠ k2 := fun e => by
  have := h.buf; rw [← e, h.obj] at this; cases this
/-- A word is changed. -/
theorem MemO.set {O : Mo} {k off k2 : Nat} {cs ws : List AV} (h : MemO O k off k2 cs ws) (ws' : List AV) (hl : ws'.length = ws.length) : MemO (O.set k2 (.buf 1 ws')) k off k2 cs ws' :=
  ⟨set_ne h.obj h.ne.symm, by rw [hl]; exact h.cell, set_self h.buf⟩
theorem MemO.push {O : Mo} {k off k2 : Nat} {cs ws : List AV} (h : MemO O k off k2 cs ws) (b : ABlk) : MemO (O ++ [b]) k off k2 cs ws := ⟨app_old h.obj, h.cell, app_old h.buf⟩

/-! Several functions that are called -/
def tabC : List (FuncId × Sp) → CallT
  | [] => fun _ _ _ _ => none
  | (f, sp) :: l => fun g args O S => bif Nat.beq g f then spC (sp args O) S else tabC l g args O S
theorem tabC_hit (f : FuncId) (sp : Sp) (l : List (FuncId × Sp)) (args : List AV) (O : Mo) (S : Ms) : tabC ((f, sp) :: l) f args O S = spC (sp args O) S := by
  simp only [tabC, Nat.beq_refl, cond_true]
theorem tabC_miss {g f : FuncId} (h : Nat.beq g f = false) (sp : Sp) (l : List (FuncId × Sp)) (args : List AV) (O : Mo) (S : Ms) : tabC ((f, sp) :: l) g args O S = tabC l g args O S := by
  simp only [tabC, h, cond_false]
section
variable [GTab]
theorem tabC_nil (P : Program) : CallsOk P (tabC []) := fun _ _ _ _ _ _ _ h => by cases h
theorem tabC_cons {P : Program} {f : FuncId} {sp : Sp} {l : List (FuncId × Sp)} (h : SpOk P f sp) (hl : CallsOk P (tabC l)) : CallsOk P (tabC ((f, sp) :: l)) := fun g args O S r O' S' hc => by
  simp only [tabC] at hc
  cases hb : Nat.beq g f with
  | true =>
    rw [hb] at hc
    cases hs : sp args O with
    | none => rw [hs] at hc; cases hc
    | some p =>
      obtain ⟨r1, O1⟩ := p
      rw [hs] at hc
      cases hc
      rw [Nat.eq_of_beq_eq_true hb]
      exact h args O r1 O1 hs S
  | false => rw [hb] at hc; exact hl g args O S r O' S' hc
end
end Den
