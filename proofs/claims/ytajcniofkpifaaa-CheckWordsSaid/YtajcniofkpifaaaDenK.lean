/- Single operations that leave the memory as it is: structs, lengths, strings, maps; and all of them together. -/
import Derived.Test.YtajcniofkpifaaaDenJ
import Derived.Laws.StructEq
import Derived.ChangeKeysEq
set_option linter.unusedSectionVars false
set_option linter.unusedVariables false
set_option linter.unusedSimpArgs false
namespace Den
open Go
variable [GTab]

section
variable {P : Program} {g : Gh} {O : List ABlk} {S : List (List ABlk)} {w : World} {lim : Nat}

theorem skOf_spec {d : Option TypeDesc} {k : SK} (h : skOf d = some k) : (k = .bool ∧ d = some .bool) ∨ (k = .int ∧ ∃ q, d = some (.int q)) ∨ (k = .str ∧ d = some .string) := by
  unfold skOf at h
  split at h <;> simp at h <;> subst h <;> simp

theorem run_eqCell {t : TypeId} {d : Nat} {k : SK} (hu : skOf (P.underlying t) = some k) {x y : AV} {v u : Value}
    (hx : VR g O S w lim x v) (hy : VR g O S w lim y u) {b : Bool} (h : eqCell k x y = some b) : (Op.equalIn (d + 1) t v u).run P w = .ok b w := by
  unfold Op.equalIn
  rcases skOf_spec hu with ⟨rfl, hd⟩ | ⟨rfl, q, hd⟩ | ⟨rfl, hd⟩ <;> simp only [Sem.run_bind, run_underlying_D hd, Result.andThen_ok] <;>
    cases x <;> cases y <;> simp [eqCell] at h <;> cases hx <;> cases hy
  · subst h; rfl
  · obtain ⟨rfl, rfl⟩ := h; simp [pure]
  · subst h
    rename_i a b
    show Result.ok _ w = _
    rw [beq_toListBytes]
    simp

/-- The kinds of one run of cells, and of the next. -/
theorem eqCells_append : ∀ (k : List SK) {ks : List SK} {as bs : List AV} {b : Bool}, eqCells (k ++ ks) as bs = some b →
    (b = false ∧ eqCells k (as.take k.length) (bs.take k.length) = some false) ∨
    (eqCells k (as.take k.length) (bs.take k.length) = some true ∧ eqCells ks (as.drop k.length) (bs.drop k.length) = some b)
  | [], ks, as, bs, b, h => .inr ⟨by simp [eqCells], by simpa using h⟩
  | q :: k, ks, as, bs, b, h => by
    cases as with
    | nil => simp [eqCells] at h
    | cons x as =>
      cases bs with
      | nil => simp [eqCells] at h
      | cons y bs =>
        simp only [List.cons_append, eqCells, List.length_cons, List.take_succ_cons, List.drop_succ_cons] at h ⊢
        cases hc : eqCell q x y with
        | none => rw [hc] at h; cases h
        | some r =>
          rw [hc] at h
          cases r with
          | false => simp at h; subst h; exact .inl ⟨rfl, rfl⟩
          | true => exact eqCells_append k h

/-- The cells stand in the array, from the place off on. -/
def At (_ : Program) (g : Gh) (O : List ABlk) (S : List (List ABlk)) (w : World) (lim : Nat) (xs : Array Value) (off : Nat) (as : List AV) : Prop :=
  ∀ i a, as[i]? = some a → ∃ v, xs[off + i]? = some v ∧ VR g O S w lim a v

theorem At.take {xs : Array Value} {off : Nat} {as : List AV} (h : At P g O S w lim xs off as) (n : Nat) : At P g O S w lim xs off (as.take n) := by
  intro i a ha
  rw [List.getElem?_take] at ha
  split at ha
  · exact h i a ha
  · cases ha
theorem At.drop {xs : Array Value} {off : Nat} {as : List AV} (h : At P g O S w lim xs off as) (n : Nat) : At P g O S w lim xs (off + n) (as.drop n) := by
  intro i a ha
  rw [List.getElem?_drop] at ha
  obtain ⟨v, h1, h2⟩ := h _ _ ha
  exact ⟨v, by rwa [Nat.add_assoc], h2⟩

/-- The parts of a type whose cells are scalars can be told apart. -/
def EqW (P : Program) (g : Gh) (O : List ABlk) (S : List (List ABlk)) (w : World) (lim d : Nat) (t : TypeId) (k : List SK) : Prop :=
  ∀ (xs ys : Array Value) (off : Nat) (as bs : List AV), At P g O S w lim xs off as → At P g O S w lim ys off bs → as.length ≤ k.length → bs.length ≤ k.length →
    ∀ b, eqCells k as bs = some b → ∃ x y, (part t xs off).run P w = .ok x w ∧ (part t ys off).run P w = .ok y w ∧ (Op.equalIn d t x y).run P w = .ok b w

theorem run_eqFields {d : Nat} {K : TypeId → Option (List SK)} {xs ys : Array Value}
    (hK : ∀ t k, K t = some k → k.length = P.cellsOf t ∧ EqW P g O S w lim d t k) : ∀ (fs : List Field) (off : Nat) (ks : List SK), eqFields P K off fs = some ks → ∀ (as bs : List AV),
    At P g O S w lim xs off as → At P g O S w lim ys off bs → ∀ b, eqCells ks as bs = some b → (Op.eqFields d xs ys fs).run P w = .ok b w
  | [], off, ks, hk, as, bs, hx, hy, b, h => by
    simp [eqFields] at hk; subst hk
    cases as <;> cases bs <;> simp [eqCells] at h
    subst h; rfl
  | f :: fs, off, ks, hk, as, bs, hx, hy, b, h => by
    unfold eqFields at hk
    split at hk
    · rename_i hc
      simp only [Bool.and_eq_true, bne_iff_ne, ne_eq, beq_iff_eq] at hc
      split at hk
      · rename_i k ks' h1 h2
        cases hk
        obtain ⟨hl, hE⟩ := hK _ _ h1
        have hh := eqCells_append k h
        unfold Op.eqFields
        rw [if_pos hc.1]
        rcases hh with ⟨rfl, h3⟩ | ⟨h3, h4⟩
        · obtain ⟨x, y, e1, e2, e3⟩ := hE xs ys off _ _ (hx.take _) (hy.take _) (by simp; omega) (by simp; omega) _ h3
          rw [← hc.2] at e1 e2
          simp only [Sem.run_bind, e1, e2, e3, Result.andThen_ok]
          rfl
        · obtain ⟨x, y, e1, e2, e3⟩ := hE xs ys off _ _ (hx.take _) (hy.take _) (by simp; omega) (by simp; omega) _ h3
          rw [← hc.2] at e1 e2
          simp only [Sem.run_bind, e1, e2, e3, Result.andThen_ok, Bool.not_true, Bool.false_eq_true, if_false]
          rw [hl] at h4
          exact run_eqFields hK fs _ ks' h2 _ _ (hx.drop _) (hy.drop _) b h4
      · cases hk
    · cases hk

theorem run_eqItems {d : Nat} {e : TypeId} {k : List SK} {xs ys : Array Value} (hl : k.length = P.cellsOf e) (hE : EqW P g O S w lim d e k) : ∀ (n m : Nat) (as bs : List AV),
    At P g O S w lim xs (m * P.cellsOf e) as → At P g O S w lim ys (m * P.cellsOf e) bs → ∀ b, eqCells (List.replicate n k).flatten as bs = some b →
    (Op.eqItems d e (P.cellsOf e) xs ys (List.range' m n)).run P w = .ok b w
  | 0, m, as, bs, hx, hy, b, h => by
    cases as <;> cases bs <;> simp [eqCells] at h
    subst h; rfl
  | n + 1, m, as, bs, hx, hy, b, h => by
    rw [List.replicate_succ, List.flatten_cons] at h
    have hh := eqCells_append k h
    rw [List.range'_succ]
    unfold Op.eqItems
    rcases hh with ⟨rfl, h3⟩ | ⟨h3, h4⟩
    · obtain ⟨x, y, e1, e2, e3⟩ := hE xs ys _ _ _ (hx.take _) (hy.take _) (by simp; omega) (by simp; omega) _ h3
      simp only [Sem.run_bind, e1, e2, e3, Result.andThen_ok]
      rfl
    · obtain ⟨x, y, e1, e2, e3⟩ := hE xs ys _ _ _ (hx.take _) (hy.take _) (by simp; omega) (by simp; omega) _ h3
      simp only [Sem.run_bind, e1, e2, e3, Result.andThen_ok, Bool.not_true, Bool.false_eq_true, if_false]
      rw [hl] at h4
      have hx' := hx.drop (P.cellsOf e)
      have hy' := hy.drop (P.cellsOf e)
      rw [← Nat.succ_mul] at hx' hy'
      exact run_eqItems hl hE n (m + 1) _ _ hx' hy' b h4

theorem extract_at {xs : Array Value} {off n : Nat} {as : List AV} (h : At P g O S w lim xs off as) (hn : as.length ≤ n) : At P g O S w lim (xs.extract off (off + n)) 0 as := by
  intro i a ha
  obtain ⟨v, h1, h2⟩ := h i a ha
  have hi : i < as.length := by
    rcases Nat.lt_or_ge i as.length with h' | h'
    · exact h'
    · rw [List.getElem?_eq_none h'] at ha; cases ha
  refine ⟨v, ?_, h2⟩
  have hs : off + i < xs.size := by
    rcases Nat.lt_or_ge (off + i) xs.size with h' | h'
    · exact h'
    · rw [Array.getElem?_eq_none h'] at h1; cases h1
  rw [Array.getElem?_extract]
  simp only [Nat.zero_add]
  rw [if_pos (by omega)]
  exact h1

theorem run_part_agg {t : TypeId} {dd : TypeDesc} {i : TypeInfo} (hd : P.underlying t = some dd) (ha : isAggD dd = true) (hi : P.info? t = some i) (zs : Array Value) (off : Nat) :
    (part t zs off).run P w = .ok (.agg (zs.extract off (off + P.cellsOf t))) w := by
  unfold part
  simp only [Sem.run_bind, run_isAgg_D hd, ha, Result.andThen_ok, if_true, run_sizeOf w hi]
  rfl

theorem run_equalW : ∀ (m : Nat) (t : TypeId) (k : List SK), eqKinds P m t = some k → ∀ d, k.length = P.cellsOf t ∧ EqW P g O S w lim (d + m) t k
  | 0, _, _, h => by simp [eqKinds] at h
  | m + 1, t, k, h => by
    intro d
    unfold eqKinds at h
    simp only at h
    split at h
    · rename_i k' i hr hi
      split at h
      · rename_i hl
        cases h
        have hl' : k.length = P.cellsOf t := by simp [Program.cellsOf, hi, hl]
        refine ⟨hl', ?_⟩
        split at hr
        · rename_i fs hu
          split at hr
          · cases hr
          · rename_i hst
            simp only [Bool.not_eq_true] at hst
            intro xs ys off as bs hx hy hla hlb b hb
            refine ⟨_, _, run_part_agg hu rfl hi xs off, run_part_agg hu rfl hi ys off, ?_⟩
            have hf : P.fieldsOf t = fs := by simp [Program.fieldsOf, hu]
            rw [show d + (m + 1) = (d + m) + 1 from rfl, run_equalIn_struct w (d + m) t _ _ (by rw [hf]; exact hu) hst, hf]
            rw [← hl'] 
            exact run_eqFields (fun t' k' h' => run_equalW m t' k' h' d) fs.toList 0 k hr as bs (extract_at hx hla) (extract_at hy hlb) b hb
        · rename_i n e hu
          simp only [Option.map_eq_some_iff] at hr
          obtain ⟨ke, hke, rfl⟩ := hr
          intro xs ys off as bs hx hy hla hlb b hb
          refine ⟨_, _, run_part_agg hu rfl hi xs off, run_part_agg hu rfl hi ys off, ?_⟩
          have hie : ∃ ie, P.info? e = some ie := by
            cases m with
            | zero => simp [eqKinds] at hke
            | succ m =>
              unfold eqKinds at hke
              simp only at hke
              split at hke
              · rename_i ie _ hie; exact ⟨_, hie⟩
              · cases hke
          obtain ⟨ie, hie⟩ := hie
          obtain ⟨hl2, hE⟩ := run_equalW m e ke hke d
          rw [show d + (m + 1) = (d + m) + 1 from rfl, run_equalIn_array w (d + m) _ _ hu hie, List.range_eq_range', ← hl']
          refine run_eqItems hl2 hE n 0 as bs ?_ ?_ b hb
          · rw [Nat.zero_mul]; exact extract_at hx hla
          · rw [Nat.zero_mul]; exact extract_at hy hlb
        · simp only [Option.map_eq_some_iff] at hr
          obtain ⟨q, hq, rfl⟩ := hr
          have hag : ∃ dd, P.underlying t = some dd ∧ isAggD dd = false := by
            rcases skOf_spec hq with ⟨_, hd⟩ | ⟨_, q, hd⟩ | ⟨_, hd⟩ <;> exact ⟨_, hd, rfl⟩
          obtain ⟨dd, hd1, hd2⟩ := hag
          intro xs ys off as bs hx hy hla hlb b hb
          cases as with
          | nil => simp [eqCells] at hb
          | cons a as =>
            cases bs with
            | nil => simp [eqCells] at hb
            | cons b' bs =>
              simp at hla hlb
              subst hla; subst hlb
              obtain ⟨v, hv1, hv2⟩ := hx 0 a rfl
              obtain ⟨u, hu1, hu2⟩ := hy 0 b' rfl
              have hp : ∀ (zs : Array Value) z, zs[off + 0]? = some z → (part t zs off).run P w = .ok z w := by
                intro zs z hz
                unfold part
                simp only [Sem.run_bind, run_isAgg_D hd1, hd2, Result.andThen_ok, Bool.false_eq_true, if_false]
                simp at hz
                rw [hz]; rfl
              refine ⟨v, u, hp xs v hv1, hp ys u hu1, ?_⟩
              simp only [eqCells] at hb
              cases hc2 : eqCell q a b' with
              | none => rw [hc2] at hb; cases hb
              | some r =>
                rw [hc2] at hb
                rw [show d + (m + 1) = (d + m) + 1 from rfl, run_eqCell hq hv2 hu2 hc2]
                cases r <;> simp at hb <;> subst hb <;> rfl
      · cases h
    · cases h

theorem agg_inv {cs : List AV} {v : Value} (h : VR g O S w lim (.agg cs) v) : ∃ vs, v = .agg vs ∧ CellsR g O S w lim cs vs := by
  have := cells_of h rfl
  cases h with
  | agg f hs hf hv h1 => exact ⟨_, rfl, this⟩

theorem run_eqs_sound {t : TypeId} {fs : Array Field} {ks : List SK} {neg : Bool} {X Y : Operand} (hu : P.underlying t = some (.struct fs)) (hk : eqFields P (eqKinds P 8) 0 fs.toList = some ks)
    (hp : P.stoodInHeld t = false) (hm : P.eqGuardType P.depth t = false) {as bs : List AV} {v u : Value} (hx : VR g O S w lim (.agg as) v) (hy : VR g O S w lim (.agg bs) u)
    {b : Bool} (h : eqCells ks as bs = some b) :
    (do eqGuard (if neg then .neq else .eql) t X Y v u; binOp (if neg then .neq else .eql) t v u : Sem Value).run P w = .ok (.bool (if neg then !b else b)) w := by
  obtain ⟨vs, rfl, cv⟩ := agg_inv hx
  obtain ⟨us, rfl, cu⟩ := agg_inv hy
  have hf : P.fieldsOf t = fs := by simp [Program.fieldsOf, hu]
  have e := run_eqFields (d := 9999) (P := P) (fun t' k' h' => run_equalW 8 t' k' h' 9991) fs.toList 0 ks hk as bs (xs := vs) (ys := us) (fun i a ha => by simpa using (cv.2 i a ha).2) (fun i a ha => by simpa using (cu.2 i a ha).2) b h
  have e2 : (Op.equalIn 10000 t (.agg vs) (.agg us)).run P w = .ok b w := by
    rw [run_equalIn_struct w 9999 t vs us (by rw [hf]; exact hu) hp, hf]; exact e
  simp only [Sem.run_bind, run_eqGuard_agg w _ t X Y vs us hm, Result.andThen_ok]
  cases neg
  · simp only [Bool.false_eq_true, if_false, run_eql_struct w t vs us, e2, Result.andThen_ok]
  · simp only [if_true, run_neq_struct w t vs us, e2, Result.andThen_ok]

/-- What the contents of a slice or string are. -/
theorem conts_sound (hsim : Sim g O S w) {sz : Nat} {x : AV} {v : Value} (hx : VR g O S w lim x v) {cs : List AV} {n : Nat} (h : conts O S sz x = some (cs, n)) :
    (∃ s, x = .str s ∧ sz = 1 ∧ cs = s.map (fun b => .int .u8 b.toNat) ∧ n = s.length) ∨
    (cs.length = n * sz ∧ ∃ a cap, v = .slice a n cap ∧ n ≤ cap ∧
      (∀ (i : Nat) (y : AV), cs[i]? = some y → ∃ c off, a = some ⟨c, off, none⟩ ∧ y.one = true ∧ ∃ z, w.cell? ⟨c, off + i, none⟩ = some z ∧ VR g O S w lim y z)) := by
  cases x <;> simp only [conts] at h <;> try (cases h; done)
  case nils =>
    cases hx; simp at h; obtain ⟨rfl, rfl⟩ := h
    exact .inr ⟨by simp, none, 0, rfl, Nat.le_refl _, fun i y hy => by simp at hy⟩
  case emp =>
    cases hx; simp at h; obtain ⟨rfl, rfl⟩ := h
    exact .inr ⟨by simp, _, 0, rfl, Nat.le_refl _, fun i y hy => by simp at hy⟩
  case str s =>
    split at h
    · rename_i h1
      simp at h; obtain ⟨rfl, rfl⟩ := h
      exact .inl ⟨s, rfl, h1, rfl, rfl⟩
    · cases h
  case isl cells len =>
    split at h
    · rename_i h1
      simp at h; obtain ⟨rfl, rfl⟩ := h
      refine .inr ⟨h1, ?_⟩
      cases hx with
      | isle => exact ⟨_, _, rfl, Nat.zero_le _, fun i y hy => by simp at hy⟩
      | isl f hlen hc himm hv h1' =>
        refine ⟨_, _, rfl, hlen, fun i y hy => ⟨_, _, rfl, h1' i y hy, f i, hc i ?_, (hv i y hy).lim (Nat.zero_le _)⟩⟩
        rcases Nat.lt_or_ge i cells.length with h' | h'
        · exact h'
        · rw [List.getElem?_eq_none h'] at hy; cases hy
    · cases h
  case sref d k off len cap =>
    cases hx with
    | sref hd hb hr hlc ha =>
      rename_i c a
      split at h
      · rename_i cells hg
        split at h
        · rename_i hle
          simp at h; obtain ⟨rfl, rfl⟩ := h
          refine .inr ⟨by simp; omega, _, _, rfl, hlc, fun i y hy => ?_⟩
          rw [List.getElem?_take] at hy
          split at hy
          · rename_i hi
            rw [List.getElem?_drop] at hy
            rcases ha with ha | rfl
            · have : len = 0 := by omega
              subst this; simp at hi
            · obtain ⟨vs, ⟨ty, fr, p1, p2⟩, p3, p4⟩ := hsim.blk d k c _ hr hg
              obtain ⟨q1, z, q2, q3⟩ := p4 _ _ hy
              exact ⟨c, off, rfl, q1, z, by simp [World.cell?, p1, q2], q3.limS hd⟩
          · cases hy
        · cases h
      · cases h
  case bref d k off len tot =>
    cases hx with
    | bref hd hlc ha hb =>
      rename_i cap a
      obtain ⟨sz', cells, hg, ht, hu, hm⟩ := hb
      rw [hg] at h
      simp only at h
      split at h
      · rename_i hle
        simp at h; obtain ⟨rfl, rfl⟩ := h
        refine .inr ⟨by simp; omega, _, _, rfl, hlc, fun i y hy => ?_⟩
        rw [List.getElem?_take] at hy
        split at hy
        · rename_i hi
          rw [List.getElem?_drop] at hy
          have hm := hm hle.1
          cases hr : g.ρ d k with
          | un => exact absurd hr hu
          | nil =>
            rw [hr] at hm
            have : len = 0 := by have := hm.2; omega
            subst this; simp at hi
          | «at» c =>
            rw [hr] at hm
            rcases hm.1 with h0 | rfl
            · have : len = 0 := by omega
              subst this; simp at hi
            · obtain ⟨vs, ⟨ty, fr, p1, p2⟩, p3, p4⟩ := hsim.blk d k c _ hr hg
              obtain ⟨q1, z, q2, q3⟩ := p4 _ _ hy
              exact ⟨c, off, rfl, q1, z, by simp [World.cell?, p1, q2], q3.limS hd⟩
        · cases hy
      · cases h

end
end Den
