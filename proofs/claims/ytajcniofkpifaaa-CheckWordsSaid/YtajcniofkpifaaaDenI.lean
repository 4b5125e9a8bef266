/- Single operations that leave the memory as it is, one by one: addresses, parts, comparisons. -/
import Derived.Test.YtajcniofkpifaaaDenH
set_option linter.unusedSectionVars false
set_option linter.unusedVariables false
set_option linter.unusedSimpArgs false
namespace Den
open Go
variable [GTab]

section
variable {P : Program} {g : Gh} {O : List ABlk} {S : List (List ABlk)} {w : World} {lim : Nat}

theorem BufAt.add {d k tot off cap n m : Nat} {a : Addr} (h : BufAt g O S w d k tot off cap (some a)) (h1 : 1 ≤ cap) (hm : n = 0 → m ≤ cap) :
    BufAt g O S w d k tot (off + n) m (some (a.add n)) := by
  obtain ⟨sz, cs, p1, p2, p3, p4⟩ := h
  refine ⟨sz, cs, p1, p2, p3, fun e => ?_⟩
  have p4 := p4 e
  cases hr : g.ρ d k with
  | un => exact absurd hr p3
  | nil => rw [hr] at p4; exact absurd p4.2 (by omega)
  | «at» c =>
    rw [hr] at p4
    rcases p4.1 with h0 | h0
    · omega
    · cases h0
      refine ⟨.inr (by rw [addr_add]), fun h0 => ?_⟩
      obtain ⟨vs, ty, fr, q1, q2⟩ := p4.2 (by omega)
      exact ⟨vs, ty, fr, q1, Nat.le_trans (Nat.mul_le_mul_right _ (hm (by omega))) q2⟩

theorem iptr_drop {cells : List AV} {v : Value} (h : VR g O S w lim (.iptr cells) v) (n : Nat) :
    ∃ a, v = .pointer (some a) ∧ VR g O S w lim (.iptr (cells.drop n)) (.pointer (some (a.add n))) := by
  cases h with
  | iptr f hc hi hv h1 =>
    rename_i c off
    refine ⟨_, rfl, ?_⟩
    rw [addr_add]
    refine .iptr (fun i => f (n + i)) (fun i hi' => ?_) (fun hne => ?_) (fun i a ha => ?_) (fun i a ha => ?_)
    · simp at hi'
      have := hc (n + i) (by omega)
      rwa [← Nat.add_assoc] at this
    · have hpos := List.length_pos_iff.2 hne
      simp at hpos
      rcases hi (by rintro rfl; simp at hpos) with h | ⟨m, hm, hle⟩
      · exact .inl h
      · exact .inr ⟨m, hm, by simp; omega⟩
    · rw [List.getElem?_drop] at ha; exact hv _ a ha
    · rw [List.getElem?_drop] at ha; exact h1 _ a ha

/-- The address of a field. -/
theorem run_fld_sound {s : TypeId} {fs : Array Field} {f n : Nat} {ag : Bool} {fd : Field} (hu : P.underlying s = some (.struct fs)) (hf : fs[f]? = some fd)
    (ht : tyOf P fd.type = some (n, ag)) (hn : n ≠ 0) {x : AV} {v : Value} (hx : VR g O S w lim x v) {r : AV}
    (hr : fldA fd.offset x = some r) :
    ∃ v', (Instr.fieldAt s v f).run P w = .ok v' w ∧ VR g O S w lim r v' := by
  obtain ⟨i, d, h1, h2, rfl, rfl⟩ := tyOf_spec ht
  have key : ∀ a : Addr, (Instr.fieldAt s (.pointer (some a)) f).run P w = .ok (.pointer (some (a.add fd.offset))) w := fun a => by
    unfold Instr.fieldAt
    simp only [Sem.run_bind, run_underlying_D hu, Result.andThen_ok, hf]
    simp [Instr.sureAddr, pure, Sem.run, fieldPlace, run_sizeOf_D h1, hn]
  cases x <;> simp only [fldA] at hr <;> try (cases hr; done)
  case ref d' k o =>
    simp at hr; subst hr
    cases hx with
    | ref hd hb hr => exact ⟨_, key _, by rw [addr_add]; exact .ref hd hb hr⟩
  case bptr d' k o t =>
    simp at hr; subst hr
    cases hx with
    | bptr hd hb => exact ⟨_, key _, .bptr hd (hb.add (Nat.le_refl _) (fun _ => Nat.le_refl _))⟩
  case iptr cs =>
    simp at hr; subst hr
    obtain ⟨a, rfl, h⟩ := iptr_drop hx fd.offset
    exact ⟨_, key _, h⟩

/-- The address of an element of an array. -/
theorem run_ixa_arr {t e : TypeId} {n sz : Nat} {ag : Bool} (hu : P.underlying t = some (.array n e)) (ht : tyOf P e = some (sz, ag)) {x i : AV} {v vi : Value}
    (hx : VR g O S w lim x v) (hi : VR g O S w lim i vi) {ix : Nat} (hn : nth i = some ix) (hlt : ix < n) {r : AV}
    (hr : fldA (ix * sz) x = some r) :
    ∃ v', (Instr.indexAt t v vi).run P w = .ok v' w ∧ VR g O S w lim r v' := by
  obtain ⟨inf, d, h1, h2, rfl, rfl⟩ := tyOf_spec ht
  obtain ⟨k, m, rfl, h0, rfl⟩ := nth_spec hn hi
  have key : ∀ a : Addr, (Instr.indexAt t (.pointer (some a)) (.int k m)).run P w = .ok (.pointer (some (a.add (m.toNat * inf.size)))) w := fun a => by
    unfold Instr.indexAt
    simp only [Sem.run_bind, run_asIntOf, run_underlying_D hu, Result.andThen_ok]
    simp only [Instr.sureAddr, pure, Sem.run, Result.andThen_ok]
    rw [if_pos ⟨h0, by omega⟩]
    simp [run_sizeOf_D h1, Sem.run]
  cases x <;> simp only [fldA] at hr <;> try (cases hr; done)
  case ref d' k o =>
    simp at hr; subst hr
    cases hx with
    | ref hd hb hr => exact ⟨_, key _, by rw [addr_add]; exact .ref hd hb hr⟩
  case bptr d' k o t =>
    simp at hr; subst hr
    cases hx with
    | bptr hd hb => exact ⟨_, key _, .bptr hd (hb.add (Nat.le_refl _) (fun _ => Nat.le_refl _))⟩
  case iptr cs =>
    simp at hr; subst hr
    obtain ⟨a, rfl, h⟩ := iptr_drop hx (m.toNat * inf.size)
    exact ⟨_, key _, h⟩

/-- The address of an element of a slice. -/
theorem run_ixa_slice {t e : TypeId} {sz : Nat} {ag : Bool} (hu : P.underlying t = some (.slice e)) (ht : tyOf P e = some (sz, ag)) {x i : AV} {v vi : Value}
    (hx : VR g O S w lim x v) (hi : VR g O S w lim i vi) {ix : Nat} (hn : nth i = some ix) {r : AV}
    (hr : ixaSl ix sz x = some r) :
    ∃ v', (Instr.indexAt t v vi).run P w = .ok v' w ∧ VR g O S w lim r v' := by
  obtain ⟨inf, d, h1, h2, rfl, rfl⟩ := tyOf_spec ht
  obtain ⟨k, m, rfl, h0, rfl⟩ := nth_spec hn hi
  have key : ∀ (a : Addr) (len cap : Nat), m.toNat < len → (Instr.indexAt t (.slice (some a) len cap) (.int k m)).run P w = .ok (.pointer (some (a.add (m.toNat * inf.size)))) w := fun a len cap hlt => by
    unfold Instr.indexAt
    simp only [Sem.run_bind, run_asIntOf, run_underlying_D hu, Result.andThen_ok]
    simp only [pure, Sem.run, Result.andThen_ok]
    rw [if_pos ⟨h0, by omega⟩]
    simp [run_sizeOf_D h1, Sem.run]
  cases x <;> simp only [ixaSl] at hr <;> try (cases hr; done)
  case isl cs len =>
    split at hr
    · rename_i hlt
      simp at hr; subst hr
      cases hx with
      | isle => omega
      | isl f hlen hc himm hv h1' =>
        rename_i cap c off
        refine ⟨_, key _ _ _ hlt, ?_⟩
        have : VR g O S w lim (.iptr cs) (.pointer (some ⟨c, off, none⟩)) := .iptr f hc himm hv h1'
        obtain ⟨a, ha, h⟩ := iptr_drop this (m.toNat * inf.size)
        cases ha; exact h
    · cases hr
  case sref d' k' o len cap =>
    split at hr
    · rename_i hlt
      simp at hr; subst hr
      cases hx with
      | sref hd hb hρ hlc ha =>
        rcases ha with ha | rfl
        · omega
        · exact ⟨_, key _ _ _ hlt, by rw [addr_add]; exact .ref hd hb hρ⟩
    · cases hr
  case bref d' k' o len tot =>
    split at hr
    · rename_i hlt
      simp at hr; subst hr
      cases hx with
      | bref hd hlc ha hb =>
        rename_i cap a
        cases a with
        | none => have := ha (by omega); cases this
        | some a => exact ⟨_, key _ _ _ hlt, .bptr hd (hb.add (by omega) (fun _ => by omega))⟩
    · cases hr

theorem run_ixs {t : TypeId} (hu : P.underlying t = some .string) {s : List UInt8} {i : AV} {v vi : Value} (hx : VR g O S w lim (.str s) v) (hi : VR g O S w lim i vi) {ix : Nat}
    (hn : nth i = some ix) {b : UInt8} (hb : s[ix]? = some b) :
    (Instr.index t v vi).run P w = .ok (.int .u8 b.toNat) w := by
  obtain ⟨k, m, rfl, h0, rfl⟩ := nth_spec hn hi
  cases hx
  unfold Instr.index
  simp only [Sem.run_bind, run_asIntOf, run_underlying_D hu, Result.andThen_ok, h0, if_true]
  have hlt : m.toNat < s.length := by
    rcases Nat.lt_or_ge m.toNat s.length with h | h
    · exact h
    · rw [List.getElem?_eq_none h] at hb; cases hb
  have : (ByteArray.mk s.toArray)[m.toNat]? = some b := by
    have hs : (ByteArray.mk s.toArray).size = s.length := by simp [ByteArray.size]
    rw [getElem?_pos _ _ (by rw [hs]; exact hlt)]
    rw [List.getElem?_eq_getElem hlt] at hb
    simpa [ByteArray.getElem_eq_getElem_data] using hb
  rw [this]
  rfl

/-- A part of a value that is a struct or an array. -/
theorem run_part_D {t : TypeId} {n : Nat} {ag : Bool} (ht : tyOf P t = some (n, ag)) {cs : List AV} {vs : Array Value} (hx : VR g O S w lim (.agg cs) (.agg vs)) {off : Nat} {r : AV}
    (h : takeV n ag (cs.drop off) = some r) : ∃ v', (part t vs off).run P w = .ok v' w ∧ VR g O S w lim r v' := by
  obtain ⟨i, d, h1, h2, rfl, rfl⟩ := tyOf_spec ht
  cases hx with
  | agg f hs hf hv h1' =>
    unfold takeV at h
    unfold part
    simp only [Sem.run_bind, run_isAgg_D h2, Result.andThen_ok]
    cases hd : isAggD d with
    | false =>
      simp only [hd, Bool.false_eq_true, if_false] at h ⊢
      rw [List.getElem?_drop] at h
      have hlt : off + 0 < cs.length := by
        rcases Nat.lt_or_ge (off + 0) cs.length with h' | h'
        · exact h'
        · rw [List.getElem?_eq_none h'] at h; cases h
      have := hf off hlt
      rw [this]
      exact ⟨f off, rfl, hv _ _ h⟩
    | true =>
      simp only [hd, if_true] at h ⊢
      split at h
      · rename_i hle
        simp at h; subst h
        simp at hle
        refine ⟨.agg (vs.extract off (off + i.size)), by simp [run_sizeOf_D h1, pure, Sem.run], ?_⟩
        refine .agg (fun j => f (off + j)) (by simp; omega) (fun j hj => ?_) (fun j a ha => ?_) (fun j a ha => ?_)
        · simp at hj
          rw [Array.getElem?_extract, if_pos (by omega)]
          exact hf _ (by omega)
        · rw [List.getElem?_take] at ha
          split at ha
          · rw [List.getElem?_drop] at ha; exact hv _ _ ha
          · cases ha
        · rw [List.getElem?_take] at ha
          split at ha
          · rw [List.getElem?_drop] at ha; exact h1' _ _ ha
          · cases ha
      · cases h

/-- The cells of a value. -/
def CellsR (g : Gh) (O : List ABlk) (S : List (List ABlk)) (w : World) (lim : Nat) (cs : List AV) (vs : Array Value) : Prop :=
  vs.size = cs.length ∧ ∀ (i : Nat) (a : AV), cs[i]? = some a → a.one = true ∧ ∃ v, vs[i]? = some v ∧ VR g O S w lim a v

theorem cells_of {x : AV} {v : Value} (hx : VR g O S w lim x v) (ho : x.okv = true) : CellsR g O S w lim x.cells v.cells := by
  have one : ∀ {x : AV} {v : Value}, VR g O S w lim x v → x.one = true → x.cells = [x] → v.cells = #[v] → CellsR g O S w lim x.cells v.cells := by
    intro x v h h1 h2 h3
    rw [h2, h3]
    refine ⟨rfl, fun i a ha => ?_⟩
    cases i with
    | zero => simp at ha; subst ha; exact ⟨h1, v, rfl, h⟩
    | succ i => simp at ha
  cases hx with
  | undef => simp [AV.okv] at ho
  | tup => simp [AV.okv] at ho
  | agg f hs hf hv h1 =>
    refine ⟨hs, fun i a ha => ⟨h1 i a ha, f i, hf i ?_, hv i a ha⟩⟩
    rcases Nat.lt_or_ge i (AV.agg _).cells.length with h' | h'
    · exact h'
    · rw [List.getElem?_eq_none h'] at ha; cases ha
  | int => exact one .int rfl rfl rfl
  | bool => exact one .bool rfl rfl rfl
  | str => exact one .str rfl rfl rfl
  | nilp => exact one .nilp rfl rfl rfl
  | nils => exact one .nils rfl rfl rfl
  | nili => exact one .nili rfl rfl rfl
  | nilf => exact one .nilf rfl rfl rfl
  | nilm => exact one .nilm rfl rfl rfl
  | emp => exact one .emp rfl rfl rfl
  | fm => exact one .fm rfl rfl rfl
  | isle => exact one .isle rfl rfl rfl
  | isl f hlen hc hi hv h1 => exact one (.isl f hlen hc hi hv h1) rfl rfl rfl
  | iptr f hc hi hv h1 => exact one (.iptr f hc hi hv h1) rfl rfl rfl
  | func f hs hf hv => exact one (.func f hs hf hv) rfl rfl rfl
  | iface h => exact one (.iface h) rfl rfl rfl
  | ref hd hb hr => exact one (.ref hd hb hr) rfl rfl rfl
  | sref hd hb hr hlc ha => exact one (.sref hd hb hr hlc ha) rfl rfl rfl
  | bref hd hlc ha hb => exact one (.bref hd hlc ha hb) rfl rfl rfl
  | bptr hd hb => exact one (.bptr hd hb) rfl rfl rfl
  | map hd hb hr => exact one (.map hd hb hr) rfl rfl rfl

theorem CellsR.toAgg {cs : List AV} {vs : Array Value} (h : CellsR g O S w lim cs vs) : VR g O S w lim (.agg cs) (.agg vs) := by
  refine .agg (fun i => vs.getD i undef) h.1 (fun i hi => ?_) (fun i a ha => ?_) (fun i a ha => (h.2 i a ha).1)
  · have : i < vs.size := by rw [h.1]; exact hi
    simp [this]
  · obtain ⟨_, v, hv, hr⟩ := h.2 i a ha
    have : vs.getD i undef = v := by simp [Array.getD_eq_getD_getElem?, hv]
    rw [this]; exact hr

theorem foldl_set (off : Nat) : ∀ (l : List Value) (k : Nat) (cells : Array Value), off + k + l.length ≤ cells.size →
    (((l.zipIdx k).foldl (fun cs (x : Value × Nat) => cs.setIfInBounds (off + x.2) x.1) cells).size = cells.size ∧
     ∀ j, ((l.zipIdx k).foldl (fun cs (x : Value × Nat) => cs.setIfInBounds (off + x.2) x.1) cells)[j]? =
      if off + k ≤ j ∧ j < off + k + l.length then l[j - (off + k)]? else cells[j]?)
  | [], k, cells, _ => ⟨rfl, fun j => by rw [if_neg (by simp only [List.length_nil]; omega)]; rfl⟩
  | v :: l, k, cells, h => by
    simp only [List.length_cons] at h
    obtain ⟨h1, h2⟩ := foldl_set off l (k + 1) (cells.setIfInBounds (off + k) v) (by rw [Array.size_setIfInBounds]; omega)
    simp only [List.zipIdx_cons, List.foldl_cons]
    refine ⟨by rw [h1, Array.size_setIfInBounds], fun j => ?_⟩
    rw [h2 j]
    simp only [List.length_cons]
    by_cases ha : off + (k + 1) ≤ j ∧ j < off + (k + 1) + l.length
    · rw [if_pos ha, if_pos (by omega)]
      have : j - (off + k) = (j - (off + (k + 1))) + 1 := by omega
      rw [this, List.getElem?_cons_succ]
    · rw [if_neg ha]
      by_cases hb : off + k ≤ j ∧ j < off + k + (l.length + 1)
      · rw [if_pos hb]
        have : j = off + k := by omega
        subst this
        rw [Array.getElem?_setIfInBounds, if_pos rfl, if_pos (by omega), Nat.sub_self]; rfl
      · rw [if_neg hb, Array.getElem?_setIfInBounds, if_neg (by omega)]

theorem CellsR.put {cs new : List AV} {vs nv : Array Value} {off : Nat} (h : CellsR g O S w lim cs vs) (hn : CellsR g O S w lim new nv) (hoff : off + new.length ≤ cs.length) :
    CellsR g O S w lim (putAt cs off new) (nv.zipIdx.foldl (fun cs (x : Value × Nat) => cs.setIfInBounds (off + x.2) x.1) vs) := by
  have e : nv.zipIdx.foldl (fun cs (x : Value × Nat) => cs.setIfInBounds (off + x.2) x.1) vs = (nv.toList.zipIdx 0).foldl (fun cs (x : Value × Nat) => cs.setIfInBounds (off + x.2) x.1) vs := by
    rw [← Array.foldl_toList, Array.toList_zipIdx]
  have hl : nv.toList.length = new.length := by simp [hn.1]
  obtain ⟨h1, h2⟩ := foldl_set off nv.toList 0 vs (by rw [hl, h.1]; omega)
  rw [e]
  refine ⟨by rw [h1, h.1, putAt_length hoff], fun i a ha => ?_⟩
  rw [putAt_get hoff] at ha
  rw [h2 i, hl]
  simp only [Nat.add_zero]
  split at ha
  · rename_i hc
    rw [if_pos hc]
    obtain ⟨p, v, q, r⟩ := hn.2 _ a ha
    exact ⟨p, v, by simpa using q, r⟩
  · rename_i hc
    rw [if_neg hc]
    exact h.2 i a ha

theorem fill_sound (place : Nat → Option (Nat × Nat)) {env : List AV} {tmps : Array Value} {defers : List Deferred} (he : EnvR g O S w lim env tmps) :
    ∀ (ps : List (Nat × Operand)) (ps' : List (Nat × Nat × Opd)), cparts P place ps = some ps' → ∀ (cs : List AV) (vs : Array Value), CellsR g O S w lim cs vs → ∀ r, buildA env cs ps' = some r →
      ∃ rv, Instr.fill place vs (ps.map fun (i, x) => (i, Act.eval ⟨tmps, defers⟩ x)) = some rv ∧ CellsR g O S w lim r rv
  | [], ps', hp, cs, vs, hc, r, hr => by
    simp [cparts] at hp; subst hp
    simp [buildA] at hr; subst hr
    exact ⟨vs, rfl, hc⟩
  | (i, x) :: ps, ps', hp, cs, vs, hc, r, hr => by
    simp only [cparts] at hp
    split at hp
    · rename_i off sz x' r' e1 e2 e3
      simp at hp; subst hp
      simp only [buildA] at hr
      split at hr
      · rename_i hcond
        obtain ⟨c1, c2, c3⟩ := hcond
        have hv := ev_sound (defers := defers) he e2
        have hcell := cells_of hv c1
        have hput := hc.put hcell (off := off) (by omega)
        obtain ⟨rv, q1, q2⟩ := fill_sound place he ps r' e3 _ _ hput r hr
        refine ⟨rv, ?_, q2⟩
        simp only [List.map_cons, Instr.fill, e1]
        rw [if_neg]
        · exact q1
        · have e1 : (Act.eval ⟨tmps, defers⟩ x).cells.size = sz := hcell.1.trans c2
          have e2 := hc.1
          rw [e1]
          simp
          omega
      · cases hr
    · cases hp

end
end Den
