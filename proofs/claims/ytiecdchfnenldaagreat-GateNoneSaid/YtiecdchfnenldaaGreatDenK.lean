/- Single operations that leave the memory as it is: structs, lengths, strings, maps; and all of them together. -/
import Derived.Test.YtiecdchfnenldaaGreatDenJ
import Derived.Laws.StructEq
namespace Den
open Go

section
variable {P : Program} {g : Gh} {O : List ABlk} {S : List (List ABlk)} {w : World} {lim : Nat}

theorem skOf_spec {d : Option TypeDesc} {k : SK} (h : skOf d = some k) : (k = .bool ∧ d = some .bool) ∨ (k = .int ∧ ∃ q, d = some (.int q)) ∨ (k = .str ∧ d = some .string) := by
  unfold skOf at h
  split at h <;> simp at h <;> subst h <;> simp

theorem run_eqCell {t : TypeId} {d : Nat} {k : SK} (hu : skOf (P.underlying t) = some k) {x y : AV} {v u : Value}
    (hx : VR g O S w lim x v) (hy : VR g O S w lim y u) {b : Bool} (h : eqCell k x y = some b) : (Op.equalIn (d + 1) t v u).run P w = .ok b w := by
  unfold Op.equalIn
  rcases skOf_spec hu with ⟨rfl, hd⟩ | ⟨rfl, q, hd⟩ | ⟨rfl, hd⟩ <;> simp only [Sem.run_bind, run_underlying_D hd, Result.andThen_ok] <;>
    cases x <;> cases y <;> simp [eqCell] at h <;> cases hx <;> cases hy
  · subst h; rfl
  · obtain ⟨rfl, rfl⟩ := h; simp [pure]
  · subst h
    rename_i a b
    show Result.ok _ w = _
    rw [beq_toListBytes]
    simp

theorem eqFields_cons {f : Field} {r : List Field} {off : Nat} {ks : List SK} (h : eqFields P off (f :: r) = some ks) :
    f.name ≠ "_" ∧ f.offset = off ∧ ∃ k ks', skOf (P.underlying f.type) = some k ∧ eqFields P (off + 1) r = some ks' ∧ ks = k :: ks' := by
  unfold eqFields at h
  by_cases hc : (f.name != "_" && f.offset == off && size1 P f.type) = true
  · rw [if_pos hc] at h
    simp only [Bool.and_eq_true, bne_iff_ne, ne_eq, beq_iff_eq] at hc
    cases h1 : skOf (P.underlying f.type) with
    | none => rw [h1] at h; simp at h
    | some k =>
      cases h2 : eqFields P (off + 1) r with
      | none => rw [h1, h2] at h; simp at h
      | some ks' =>
        rw [h1, h2] at h
        simp at h
        exact ⟨hc.1.1, hc.1.2, k, ks', rfl, rfl, h.symm⟩
  · rw [if_neg hc] at h; cases h

theorem run_eqFields {d : Nat} {xs ys : Array Value} : ∀ (fs : List Field) (off : Nat) (ks : List SK), eqFields P off fs = some ks → ∀ (as bs : List AV),
    (∀ i a, as[i]? = some a → ∃ v, xs[off + i]? = some v ∧ VR g O S w lim a v) → (∀ i a, bs[i]? = some a → ∃ v, ys[off + i]? = some v ∧ VR g O S w lim a v) →
    ∀ b, eqCells ks as bs = some b → (Op.eqFields (d + 1) xs ys fs).run P w = .ok b w
  | [], off, ks, hk, as, bs, hx, hy, b, h => by
    simp [eqFields] at hk; subst hk
    cases as <;> cases bs <;> simp [eqCells] at h
    subst h; rfl
  | f :: fs, off, ks, hk, as, bs, hx, hy, b, h => by
    obtain ⟨hn, ho, k, ks', h1, h2, rfl⟩ := eqFields_cons hk
    cases as with
    | nil => simp [eqCells] at h
    | cons a as =>
      cases bs with
      | nil => simp [eqCells] at h
      | cons b' bs =>
        simp only [eqCells] at h
        obtain ⟨v, hv1, hv2⟩ := hx 0 a rfl
        obtain ⟨u, hu1, hu2⟩ := hy 0 b' rfl
        have hag : ∃ dd, P.underlying f.type = some dd ∧ isAggD dd = false := by
          rcases skOf_spec h1 with ⟨_, hd⟩ | ⟨_, q, hd⟩ | ⟨_, hd⟩ <;> exact ⟨_, hd, rfl⟩
        obtain ⟨dd, hd1, hd2⟩ := hag
        have hp : ∀ (zs : Array Value) z, zs[off + 0]? = some z → (part f.type zs f.offset).run P w = .ok z w := by
          intro zs z hz
          unfold part
          simp only [Sem.run_bind, run_isAgg_D hd1, hd2, Result.andThen_ok, Bool.false_eq_true, if_false]
          rw [ho]
          simp at hz
          rw [hz]; rfl
        unfold Op.eqFields
        rw [if_pos hn]
        simp only [Sem.run_bind, hp xs v hv1, hp ys u hu1, Result.andThen_ok]
        cases hc2 : eqCell k a b' with
        | none => rw [hc2] at h; cases h
        | some r =>
          rw [hc2] at h
          rw [run_eqCell h1 hv2 hu2 hc2]
          cases r with
          | false => simp at h; subst h; rfl
          | true =>
            simp only at h
            simp only [Result.andThen_ok, Bool.not_true, Bool.false_eq_true, if_false]
            refine run_eqFields fs (off + 1) ks' h2 as bs (fun i a ha => ?_) (fun i a ha => ?_) b h
            · have := hx (i + 1) a (by simpa using ha)
              rwa [show off + (i + 1) = off + 1 + i by omega] at this
            · have := hy (i + 1) a (by simpa using ha)
              rwa [show off + (i + 1) = off + 1 + i by omega] at this

theorem agg_inv {cs : List AV} {v : Value} (h : VR g O S w lim (.agg cs) v) : ∃ vs, v = .agg vs ∧ CellsR g O S w lim cs vs := by
  have := cells_of h rfl
  cases h with
  | agg f hs hf hv h1 => exact ⟨_, rfl, this⟩

theorem run_eqs_sound {t : TypeId} {fs : Array Field} {ks : List SK} {neg : Bool} {X Y : Operand} (hu : P.underlying t = some (.struct fs)) (hk : eqFields P 0 fs.toList = some ks)
    (hp : P.stoodInHeld t = false) (hm : P.eqGuardType P.depth t = false) {as bs : List AV} {v u : Value} (hx : VR g O S w lim (.agg as) v) (hy : VR g O S w lim (.agg bs) u)
    {b : Bool} (h : eqCells ks as bs = some b) :
    (do eqGuard (if neg then .neq else .eql) t X Y v u; binOp (if neg then .neq else .eql) t v u : Sem Value).run P w = .ok (.bool (if neg then !b else b)) w := by
  obtain ⟨vs, rfl, cv⟩ := agg_inv hx
  obtain ⟨us, rfl, cu⟩ := agg_inv hy
  have hf : P.fieldsOf t = fs := by simp [Program.fieldsOf, hu]
  have e := run_eqFields (d := 9998) (P := P) fs.toList 0 ks hk as bs (xs := vs) (ys := us) (fun i a ha => by simpa using (cv.2 i a ha).2) (fun i a ha => by simpa using (cu.2 i a ha).2) b h
  have e2 : (Op.equalIn 10000 t (.agg vs) (.agg us)).run P w = .ok b w := by
    rw [run_equalIn_struct w 9999 t vs us (by rw [hf]; exact hu) hp, hf]; exact e
  simp only [Sem.run_bind, run_eqGuard_agg w _ t X Y vs us hm, Result.andThen_ok]
  cases neg
  · simp only [Bool.false_eq_true, if_false, run_eql_struct w t vs us, e2, Result.andThen_ok]
  · simp only [if_true, run_neq_struct w t vs us, e2, Result.andThen_ok]

/-- What the contents of a slice or string are. -/
theorem conts_sound (hsim : Sim g O S w) {sz : Nat} {x : AV} {v : Value} (hx : VR g O S w lim x v) {cs : List AV} {n : Nat} (h : conts O S sz x = some (cs, n)) :
    (∃ s, x = .str s ∧ sz = 1 ∧ cs = s.map (fun b => .int .u8 b.toNat) ∧ n = s.length) ∨
    (cs.length = n * sz ∧ ∃ a cap, v = .slice a n cap ∧ n ≤ cap ∧
      (∀ (i : Nat) (y : AV), cs[i]? = some y → ∃ c off, a = some ⟨c, off, none⟩ ∧ y.one = true ∧ ∃ z, w.cell? ⟨c, off + i, none⟩ = some z ∧ VR g O S w lim y z)) := by
  cases x <;> simp only [conts] at h <;> try (cases h; done)
  case nils =>
    cases hx; simp at h; obtain ⟨rfl, rfl⟩ := h
    exact .inr ⟨by simp, none, 0, rfl, Nat.le_refl _, fun i y hy => by simp at hy⟩
  case emp =>
    cases hx; simp at h; obtain ⟨rfl, rfl⟩ := h
    exact .inr ⟨by simp, _, 0, rfl, Nat.le_refl _, fun i y hy => by simp at hy⟩
  case str s =>
    split at h
    · rename_i h1
      simp at h; obtain ⟨rfl, rfl⟩ := h
      exact .inl ⟨s, rfl, h1, rfl, rfl⟩
    · cases h
  case isl cells len =>
    split at h
    · rename_i h1
      simp at h; obtain ⟨rfl, rfl⟩ := h
      refine .inr ⟨h1, ?_⟩
      cases hx with
      | isle => exact ⟨_, _, rfl, Nat.zero_le _, fun i y hy => by simp at hy⟩
      | isl f hlen hc himm hv h1' =>
        refine ⟨_, _, rfl, hlen, fun i y hy => ⟨_, _, rfl, h1' i y hy, f i, hc i ?_, (hv i y hy).lim (Nat.zero_le _)⟩⟩
        rcases Nat.lt_or_ge i cells.length with h' | h'
        · exact h'
        · rw [List.getElem?_eq_none h'] at hy; cases hy
    · cases h
  case sref d k off len cap =>
    cases hx with
    | sref hd hb hr hlc ha =>
      rename_i c a
      split at h
      · rename_i cells hg
        split at h
        · rename_i hle
          simp at h; obtain ⟨rfl, rfl⟩ := h
          refine .inr ⟨by simp; omega, _, _, rfl, hlc, fun i y hy => ?_⟩
          rw [List.getElem?_take] at hy
          split at hy
          · rename_i hi
            rw [List.getElem?_drop] at hy
            rcases ha with ha | rfl
            · have : len = 0 := by omega
              subst this; simp at hi
            · obtain ⟨vs, ⟨ty, fr, p1, p2⟩, p3, p4⟩ := hsim.blk d k c _ hr hg
              obtain ⟨q1, z, q2, q3⟩ := p4 _ _ hy
              exact ⟨c, off, rfl, q1, z, by simp [World.cell?, p1, q2], q3.limS hd⟩
          · cases hy
        · cases h
      · cases h
  case bref d k off len tot =>
    cases hx with
    | bref hd hlc ha hb =>
      rename_i cap a
      obtain ⟨sz', cells, hg, ht, hu, hm⟩ := hb
      rw [hg] at h
      simp only at h
      split at h
      · rename_i hle
        simp at h; obtain ⟨rfl, rfl⟩ := h
        refine .inr ⟨by simp; omega, _, _, rfl, hlc, fun i y hy => ?_⟩
        rw [List.getElem?_take] at hy
        split at hy
        · rename_i hi
          rw [List.getElem?_drop] at hy
          have hm := hm hle.1
          cases hr : g.ρ d k with
          | un => exact absurd hr hu
          | nil =>
            rw [hr] at hm
            have : len = 0 := by have := hm.2; omega
            subst this; simp at hi
          | «at» c =>
            rw [hr] at hm
            rcases hm.1 with h0 | rfl
            · have : len = 0 := by omega
              subst this; simp at hi
            · obtain ⟨vs, ⟨ty, fr, p1, p2⟩, p3, p4⟩ := hsim.blk d k c _ hr hg
              obtain ⟨q1, z, q2, q3⟩ := p4 _ _ hy
              exact ⟨c, off, rfl, q1, z, by simp [World.cell?, p1, q2], q3.limS hd⟩
        · cases hy
      · cases h

end
end Den
