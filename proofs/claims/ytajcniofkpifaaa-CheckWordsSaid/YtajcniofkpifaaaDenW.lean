/- What an operation depends on. -/
import Derived.Test.YtajcniofkpifaaaDenV
set_option linter.unusedSectionVars false
set_option linter.unusedVariables false
set_option linter.unusedSimpArgs false
namespace Den
open Go
variable [GTab]

section
variable {e1 e2 : List AV} {O : List ABlk} {S : List (List ABlk)}

theorem buildA_dep : ∀ (ps : List (Nat × Nat × Opd)) (cs : List AV), (∀ x ∈ ps.map (·.2.2), ev e1 x = ev e2 x) → buildA e1 cs ps = buildA e2 cs ps
  | [], _, _ => rfl
  | (off, sz, x) :: ps, cs, h => by
    simp only [buildA]
    rw [h x (by simp)]
    split
    · exact buildA_dep ps _ fun y hy => h y (by simp only [List.map_cons, List.mem_cons]; exact .inr hy)
    · rfl

theorem map_dep {l : List Opd} (h : ∀ x ∈ l, ev e1 x = ev e2 x) : l.map (ev e1) = l.map (ev e2) := List.map_congr_left h

theorem bnd_dep {x : Option Opd} {d : Nat} (h : ∀ y ∈ x.toList, ev e1 y = ev e2 y) : bnd e1 x d = bnd e2 x d := by
  cases x with
  | none => rfl
  | some y => simp only [bnd]; rw [h y (by simp)]

theorem bounds_dep {lo hi : Option Opd} {n : Nat} (h : ∀ y ∈ lo.toList ++ hi.toList, ev e1 y = ev e2 y) : bounds e1 lo hi n = bounds e2 lo hi n := by
  unfold bounds
  rw [bnd_dep fun y hy => h y (List.mem_append_left _ hy), bnd_dep fun y hy => h y (List.mem_append_right _ hy)]

theorem mx_dep (b : Bool) : ∀ (xs : List Opd) (acc : Option AV), (∀ x ∈ xs, ev e1 x = ev e2 x) → xs.foldl (mxStep b e1) acc = xs.foldl (mxStep b e2) acc
  | [], _, _ => rfl
  | x :: xs, acc, h => by
    simp only [List.foldl_cons]
    have : mxStep b e1 acc x = mxStep b e2 acc x := by unfold mxStep; rw [h x (by simp)]
    rw [this]
    exact mx_dep b xs _ fun y hy => h y (List.mem_cons_of_mem _ hy)

theorem aop_dep (o : AO) (h : ∀ x ∈ o.opds, ev e1 x = ev e2 x) : aop { env := e1, O, S } o = aop { env := e2, O, S } o := by
  cases o <;> simp only [AO.opds, List.forall_mem_cons, List.not_mem_nil, false_implies, implies_true, and_true] at h <;> simp only [aop]
  case build z ps => rw [buildA_dep ps z h]
  case bslice z sz len ps buf obj =>
    rw [buildA_dep _ _ (by simpa [List.map_map] using h)]
  case slc arr sz x lo hi =>
    rw [h.1]
    cases arr with
    | some n => simp only; rw [bounds_dep h.2]
    | none =>
      simp only
      have : slcA e1 lo hi sz (ev e2 x) = slcA e2 lo hi sz (ev e2 x) := by
        unfold slcA
        split <;> first | rfl | (rw [bounds_dep h.2])
      rw [this]
  case sls x lo hi =>
    rw [h.1]
    split
    · rw [bounds_dep h.2]
    · rfl
  case mx b x xs => rw [h.1, mx_dep b xs _ h.2]
  case mkf f caps => rw [map_dep h]
  all_goals first | rfl | (rw [h]) | (rw [h.1, h.2]) | (rw [h.1, h.2.1, h.2.2])

theorem callee_dep {cfg : Cfg} (o : AO) (h : ∀ x ∈ o.opds, ev e1 x = ev e2 x) : callee cfg e1 o = callee cfg e2 o := by
  cases o <;> simp only [AO.opds, List.forall_mem_cons] at h <;> simp only [callee]
  case call f args => rw [map_dep h]
  case calld x args => rw [h.1, map_dep h.2]
  case invk x m args => rw [h.1, map_dep h.2]

theorem opds_slots {o : AO} (h : ∀ s ∈ o.slots, e1.getD s .undef = e2.getD s .undef) : ∀ x ∈ o.opds, ev e1 x = ev e2 x := by
  intro x hx
  cases x with
  | t s => exact h s (List.mem_filterMap.2 ⟨_, hx, rfl⟩)
  | c v => rfl

theorem opx_dep {cfg : Cfg} {call : FuncId → List AV → List ABlk → List (List ABlk) → Ans} (o : AO) (h : ∀ s ∈ o.slots, e1.getD s .undef = e2.getD s .undef) :
    opx cfg call { env := e1, O, S } o = opx cfg call { env := e2, O, S } o := by
  unfold opx
  simp only [callee_dep o (opds_slots h), aop_dep o (opds_slots h)]

theorem wanted_dep {gd : Option (Nat × Bool)} (h : ∀ s b, gd = some (s, b) → e1.getD s .undef = e2.getD s .undef) : wanted e1 gd = wanted e2 gd := by
  cases gd with
  | none => rfl
  | some sb => obtain ⟨s, b⟩ := sb; simp only [wanted]; rw [h s b rfl]

/-! ### Still operations: which memory they see -/

theorem still_pure {env : List AV} {o : AO} (hs : o.still = true) (hl : o.isLoad = false) (O : List ABlk) (S : List (List ABlk)) :
    aop { env, O, S } o = (aop { env, O := [], S := [] } o).map fun r => (r.1, O, S) := by
  have hmap : ∀ (x : Option AV), x.map (fun v => (v, O, S)) = (x.map (fun v => (v, ([] : List ABlk), ([] : List (List ABlk))))).map (fun r => (r.1, O, S)) := fun x => by cases x <;> rfl
  cases o <;> simp only [AO.still, AO.isLoad] at hs hl <;> try (first | (cases hs; done) | (cases hl; done))
  all_goals
    simp only [aop]
    first
      | rfl
      | exact hmap _
      | (split <;> first | rfl | exact hmap _ | (split <;> first | rfl | exact hmap _ | (split <;> first | rfl | exact hmap _)))

theorem still_any {env : List AV} {o : AO} (hs : o.still = true) (hl : o.isLoad = false) {v : AV} {O O' : List ABlk} {S S' : List (List ABlk)} (h : aop { env, O, S } o = some (v, O', S'))
    (O2 : List ABlk) (S2 : List (List ABlk)) : aop { env, O := O2, S := S2 } o = some (v, O2, S2) := by
  rw [still_pure hs hl] at h ⊢
  simp only [Option.map_eq_some_iff, Prod.mk.injEq] at h ⊢
  obtain ⟨r, h1, h2, -, -⟩ := h
  exact ⟨r, h1, by simp [h2]⟩

/-- More memory: nothing is lost. -/
def More (O : List ABlk) (S : List (List ABlk)) (O2 : List ABlk) (S2 : List (List ABlk)) : Prop := ∀ d k b, gm O S d k = some b → gm O2 S2 d k = some b

theorem More.new {O : List ABlk} {S : List (List ABlk)} (hS : S ≠ []) (obj : Bool) (b : ABlk) : More O S (newO O obj b) (newS S obj b) := fun d k b' h => by
  rw [gm_new hS, if_neg]
  · exact h
  · rintro ⟨rfl, rfl⟩; rw [gm_newSelf hS] at h; cases h

theorem load_more {env : List AV} {o : AO} (hl : o.isLoad = true) {v : AV} {O O' : List ABlk} {S S' : List (List ABlk)} (h : aop { env, O, S } o = some (v, O', S'))
    {O2 : List ABlk} {S2 : List (List ABlk)} (hm : More O S O2 S2) : aop { env, O := O2, S := S2 } o = some (v, O2, S2) := by
  have hald : ∀ {n ag a r}, ald O S n ag a = some r → ald O2 S2 n ag a = some r := fun {n ag a r} h => by
    unfold ald at h ⊢
    split at h
    · split at h
      · rename_i hg; rw [hm _ _ _ hg]; exact h
      · cases h
    · split at h
      · rename_i hg; rw [hm _ _ _ hg]; exact h
      · cases h
    · exact h
    · cases h
  have hconts : ∀ {n a r}, conts O S n a = some r → conts O2 S2 n a = some r := fun {n a r} h => by
    unfold conts at h ⊢
    split at h
    · exact h
    · exact h
    · exact h
    · split at h
      · rename_i hg; rw [hm _ _ _ hg]; exact h
      · cases h
    · split at h
      · rename_i hg; rw [hm _ _ _ hg]; exact h
      · cases h
    · exact h
    · cases h
  have hlen : ∀ {k a r}, lenA O S k a = some r → lenA O2 S2 k a = some r := fun {k a r} h => by
    unfold lenA at h ⊢
    split at h
    · exact h
    · exact h
    · split at h
      · exact h
      · split at h
        · rename_i hg; rw [hm _ _ _ hg]; exact h
        · cases h
      · cases h
  cases o <;> simp only [AO.isLoad] at hl <;> try (cases hl; done)
  case ld sz ag a =>
    simp only [aop, Option.map_eq_some_iff, Prod.mk.injEq] at h ⊢
    obtain ⟨r, h1, h2, -, -⟩ := h
    exact ⟨r, hald h1, by simp [h2]⟩
  case cvs x =>
    simp only [aop] at h ⊢
    split at h
    · rename_i cs n hc
      rw [hconts hc]
      simp only
      split at h
      · cases h
      · simp only [Option.map_eq_some_iff, Prod.mk.injEq] at h ⊢
        obtain ⟨r, h1, h2, -, -⟩ := h
        exact ⟨r, h1, by simp [h2]⟩
    · cases h
  case len k x =>
    simp only [aop, Option.map_eq_some_iff, Prod.mk.injEq] at h ⊢
    obtain ⟨r, ⟨r', h0, h1⟩, h2, -, -⟩ := h
    exact ⟨r, ⟨r', hlen h0, h1⟩, by simp [h2]⟩
  case lkp q z ok m k =>
    simp only [aop] at h ⊢
    split at h
    · split at h
      · rename_i hg
        rw [hm _ _ _ hg]
        simp only
        split at h
        · simp only [Option.some.injEq, Prod.mk.injEq] at h ⊢; simp [h.1]
        · simp only [Option.some.injEq, Prod.mk.injEq] at h ⊢; simp [h.1]
        · cases h
      · cases h
    · split at h
      · simp only [Option.some.injEq, Prod.mk.injEq] at h ⊢; simp [h.1]
      · cases h
    · cases h

/-- What a load answers leaves the memory as it is. -/
theorem load_same {env : List AV} {o : AO} (hl : o.isLoad = true) {v : AV} {O O' : List ABlk} {S S' : List (List ABlk)} (h : aop { env, O, S } o = some (v, O', S')) : O' = O ∧ S' = S := by
  have := load_more hl h (fun _ _ _ h => h : More O S O S)
  rw [h] at this
  simp only [Option.some.injEq, Prod.mk.injEq, true_and] at this
  exact this

end
end Den
