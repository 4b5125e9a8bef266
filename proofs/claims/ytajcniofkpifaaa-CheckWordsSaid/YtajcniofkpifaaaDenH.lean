/- Single operations that leave the memory as it is, one by one. -/
import Derived.Test.YtajcniofkpifaaaDenG
set_option linter.unusedSectionVars false
set_option linter.unusedVariables false
set_option linter.unusedSimpArgs false
namespace Den
open Go
variable [GTab]

section
variable {P : Program} {g : Gh} {O : List ABlk} {S : List (List ABlk)} {w : World} {lim : Nat}

theorem nth_spec {v : AV} {n : Nat} {x : Value} (h : nth v = some n) (hx : VR g O S w lim v x) : ∃ k m, x = .int k m ∧ 0 ≤ m ∧ m.toNat = n := by
  cases v <;> simp [nth] at h
  cases hx
  exact ⟨_, _, rfl, h.1, h.2⟩

theorem run_asIntOf (k : IntKind) (n : Int) : (asIntOf (.int k n)).run P w = .ok (k, n) w := rfl

theorem run_sliceBound {k : IntKind} {m : Int} {y n : Nat} {code : BoundsCode} (h0 : 0 ≤ m) (hn : m.toNat = n) (hy : n ≤ y) :
    (Instr.sliceBound (.int k m) y code).run P w = .ok n w := by
  unfold Instr.sliceBound
  simp only [Sem.run_bind, run_asIntOf, Result.andThen_ok]
  rw [if_pos ⟨h0, by omega⟩, hn]
  rfl

theorem bounds_spec {env : List AV} {lo hi : Option Opd} {len l h : Nat} (hb : bounds env lo hi len = some (l, h)) :
    l ≤ h ∧ h ≤ len ∧ bnd env lo 0 = some l ∧ bnd env hi len = some h := by
  unfold bounds at hb
  split at hb
  · rename_i l' h' e1 e2
    by_cases c : l' ≤ h' ∧ h' ≤ len
    · rw [if_pos c] at hb; simp at hb; obtain ⟨rfl, rfl⟩ := hb; exact ⟨c.1, c.2, e1, e2⟩
    · rw [if_neg c] at hb; cases hb
  · cases hb

theorem copdO_spec {env : List AV} {tmps : Array Value} {defers : List Deferred} (he : EnvR g O S w lim env tmps) {x : Option Operand} {x' : Option Opd} (hx : copdO x = some x') :
    (x = none ∧ x' = none) ∨ ∃ o y, x = some o ∧ x' = some y ∧ VR g O S w lim (ev env y) (Act.eval ⟨tmps, defers⟩ o) := by
  cases x with
  | none => simp [copdO] at hx; exact .inl ⟨rfl, hx.symm⟩
  | some o =>
    simp only [copdO, Option.map_eq_some_iff] at hx
    obtain ⟨y, hy, rfl⟩ := hx
    exact .inr ⟨o, y, rfl, rfl, ev_sound he hy⟩

theorem run_sliceBounds {env : List AV} {tmps : Array Value} {defers : List Deferred} (he : EnvR g O S w lim env tmps) {lo hi : Option Operand} {lo' hi' : Option Opd}
    (hlo : copdO lo = some lo') (hhi : copdO hi = some hi') {len cap l h : Nat} (hb : bounds env lo' hi' len = some (l, h)) (hlc : len ≤ cap) (b : Bool) :
    (Instr.sliceBounds b len cap (lo.map (Act.eval ⟨tmps, defers⟩)) (hi.map (Act.eval ⟨tmps, defers⟩)) none).run P w = .ok (l, h, cap) w ∧ l ≤ h ∧ h ≤ len := by
  obtain ⟨b1, b2, b3, b4⟩ := bounds_spec hb
  refine ⟨?_, b1, b2⟩
  unfold Instr.sliceBounds
  have hy : h ≤ cap := by omega
  rcases copdO_spec (defers := defers) he hlo with ⟨rfl, rfl⟩ | ⟨o, y, rfl, rfl, hv⟩ <;> rcases copdO_spec (defers := defers) he hhi with ⟨rfl, rfl⟩ | ⟨o2, y2, rfl, rfl, hv2⟩ <;> simp only [bnd, Option.some.injEq] at b3 b4
  · subst b3 b4; simp [pure, Sem.run]
  · subst b3
    obtain ⟨k2, m2, e2, h02, hm2⟩ := nth_spec b4 hv2
    cases b <;> simp [pure, Sem.run, e2, run_sliceBound (P := P) (w := w) (k := k2) h02 hm2 hy]
  · subst b4
    obtain ⟨k, m, e, h0, hm⟩ := nth_spec b3 hv
    simp [pure, Sem.run, e, run_sliceBound (P := P) (w := w) (k := k) (code := .sliceB) h0 hm b1]
  · obtain ⟨k2, m2, e2, h02, hm2⟩ := nth_spec b4 hv2
    obtain ⟨k, m, e, h0, hm⟩ := nth_spec b3 hv
    cases b <;> simp [pure, Sem.run, e, e2, run_sliceBound (P := P) (w := w) (k := k2) h02 hm2 hy, run_sliceBound (P := P) (w := w) (k := k) (code := .sliceB) h0 hm b1]

theorem drop_take_cells {cells : List AV} {f : Nat → Value} {c off a n : Nat} {w : World} (hc : ∀ i, i < cells.length → w.cell? ⟨c, off + i, none⟩ = some (f i))
    (i : Nat) (hi : i < ((cells.drop a).take n).length) : w.cell? ⟨c, off + a + i, none⟩ = some (f (a + i)) := by
  simp at hi
  have := hc (a + i) (by omega)
  rwa [← Nat.add_assoc] at this

/-- A part of a slice. -/
theorem run_slice_sound {t e : TypeId} {sz : Nat} {ag : Bool} (hu : P.underlying t = some (.slice e)) (he : tyOf P e = some (sz, ag)) {env : List AV} {tmps : Array Value} {defers : List Deferred}
    (henv : EnvR g O S w lim env tmps) {lo hi : Option Operand} {lo' hi' : Option Opd} (hlo : copdO lo = some lo') (hhi : copdO hi = some hi')
    {x : AV} {v : Value} (hx : VR g O S w lim x v) {r : AV}
    (hr : slcA env lo' hi' sz x = some r) :
    ∃ v', (Instr.sliceAt t v (lo.map (Act.eval ⟨tmps, defers⟩)) (hi.map (Act.eval ⟨tmps, defers⟩)) none).run P w = .ok v' w ∧ VR g O S w lim r v' := by
  obtain ⟨i, d, h1, h2, rfl, rfl⟩ := tyOf_spec he
  unfold Instr.sliceAt
  simp only [Sem.run_bind, run_underlying_D hu, Result.andThen_ok]
  unfold Instr.slice
  simp only [Sem.run_bind, run_underlying_D hu, Result.andThen_ok]
  cases x <;> simp only [slcA] at hr <;> try (cases hr; done)
  case nils =>
    cases hx
    cases hb : bounds env lo' hi' 0 with
    | none => rw [hb] at hr; simp at hr
    | some lh =>
      obtain ⟨l, h⟩ := lh
      rw [hb] at hr
      simp at hr; subst hr
      obtain ⟨e1, e2, e3⟩ := run_sliceBounds (P := P) (defers := defers) henv hlo hhi hb (Nat.le_refl 0) true
      have : h = 0 := by omega
      have : l = 0 := by omega
      subst l h
      exact ⟨.slice none 0 0, by simp [e1, run_sizeOf_D h1, pure, Sem.run], .nils⟩
  case isl cs len =>
    cases hb : bounds env lo' hi' len with
    | none => rw [hb] at hr; simp at hr
    | some lh =>
      obtain ⟨l, h⟩ := lh
      rw [hb] at hr
      simp at hr; subst hr
      cases hx with
      | isle =>
        rename_i a cap
        obtain ⟨e1, e2, e3⟩ := run_sliceBounds (P := P) (defers := defers) henv hlo hhi hb (Nat.zero_le cap) true
        have : h = 0 := by omega
        have : l = 0 := by omega
        subst l h
        refine ⟨_, by simp [e1, run_sizeOf_D h1, pure, Sem.run]; rfl, ?_⟩
        simpa using .isle
      | isl f hlen hc himm hv h1' =>
        rename_i cap c off
        obtain ⟨e1, e2, e3⟩ := run_sliceBounds (P := P) (defers := defers) henv hlo hhi hb hlen true
        refine ⟨_, by simp [e1, run_sizeOf_D h1, pure, Sem.run]; rfl, ?_⟩
        by_cases hz : h - l = 0
        · rw [hz]; simpa using .isle
        · rw [if_neg (by omega), addr_add]
          refine .isl (fun j => f (l * i.size + j)) (by omega) (drop_take_cells hc) (fun hne => ?_) (fun j a ha => ?_) (fun j a ha => ?_)
          · have hpos : 0 < ((cs.drop (l * i.size)).take ((h - l) * i.size)).length := List.length_pos_iff.2 hne
            simp at hpos
            rcases himm (by rintro rfl; simp at hpos) with himm | ⟨m, hm, hle⟩
            · exact .inl himm
            · refine .inr ⟨m, hm, ?_⟩
              simp; omega
          · rw [List.getElem?_take, List.getElem?_drop] at ha
            split at ha
            · exact hv _ a ha
            · cases ha
          · rw [List.getElem?_take, List.getElem?_drop] at ha
            split at ha
            · exact h1' _ a ha
            · cases ha
  case sref d' k off len cap =>
    cases hb : bounds env lo' hi' len with
    | none => rw [hb] at hr; simp at hr
    | some lh =>
      obtain ⟨l, h⟩ := lh
      rw [hb] at hr
      simp at hr; subst hr
      cases hx with
      | sref hd hbk hρ hlc ha =>
        rename_i c a
        obtain ⟨e1, e2, e3⟩ := run_sliceBounds (P := P) (defers := defers) henv hlo hhi hb hlc true
        refine ⟨_, by simp [e1, run_sizeOf_D h1, pure, Sem.run]; rfl, ?_⟩
        by_cases hz : cap = l
        · subst hz
          simp only [if_true]
          exact .sref hd hbk hρ (by omega) (.inl (by omega))
        · rw [if_neg hz]
          refine .sref hd hbk hρ (by omega) (.inr ?_)
          rcases ha with ha | ha
          · omega
          · rw [ha, addr_add]
  case bref d' k off len tot =>
    cases hb : bounds env lo' hi' len with
    | none => rw [hb] at hr; simp at hr
    | some lh =>
      obtain ⟨l, h⟩ := lh
      rw [hb] at hr
      simp at hr; subst hr
      cases hx with
      | bref hd hlc ha hbuf =>
        rename_i cap a
        obtain ⟨e1, e2, e3⟩ := run_sliceBounds (P := P) (defers := defers) henv hlo hhi hb hlc true
        refine ⟨_, by simp [e1, run_sizeOf_D h1, pure, Sem.run]; rfl, ?_⟩
        refine .bref hd (by omega) (fun hpos => ?_) ?_
        · have := ha (by omega)
          rw [if_neg (by omega)]
          cases a with
          | none => cases this
          | some a => rfl
        · obtain ⟨sz', cs, p1, p2, p3, p4⟩ := hbuf
          refine ⟨sz', cs, p1, p2, p3, fun heq => ?_⟩
          have p4 := p4 heq
          cases hn : g.ρ d' k with
          | un => rw [hn] at p4; exact p4.elim
          | nil => rw [hn] at p4; exact ⟨p4.1, by have := p4.2; omega⟩
          | «at» c =>
            rw [hn] at p4
            by_cases hz : cap = l
            · refine ⟨.inl (by omega), fun h0 => ?_⟩
              obtain ⟨vs, ty, fr, q1, q2⟩ := p4.2 (by omega)
              exact ⟨vs, ty, fr, q1, Nat.le_trans (Nat.mul_le_mul_right _ (by omega)) q2⟩
            · rw [if_neg hz]
              rcases p4.1 with hz' | hz'
              · omega
              · subst hz'
                refine ⟨.inr (by simp [addr_add]), fun h0 => ?_⟩
                obtain ⟨vs, ty, fr, q1, q2⟩ := p4.2 (by omega)
                exact ⟨vs, ty, fr, q1, Nat.le_trans (Nat.mul_le_mul_right _ (by omega)) q2⟩

end
end Den
