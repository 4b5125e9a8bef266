/- Single operations: what leaves the memory as it is. -/
import Derived.Test.YtajcniofkpifaaaDenF
set_option linter.unusedSectionVars false
set_option linter.unusedVariables false
set_option linter.unusedSimpArgs false
namespace Den
open Go
variable [GTab]

section
variable {P : Program} {g g' : Gh} {O O' : List ABlk} {S S' : List (List ABlk)} {w w' : World} {lim : Nat}

mutual
theorem ofValue_sound : (v : Value) → (a : AV) → ofValue v = some a → VR g O S w lim a v
  | .agg cs, a, h => by
    simp only [ofValue, Option.map_eq_some_iff] at h
    obtain ⟨l, h, rfl⟩ := h
    obtain ⟨h1, h2⟩ := ofCells_sound cs.toList l h
    refine .agg (fun i => cs.getD i undef) (by simpa using h1.symm) (fun i hi => ?_) (fun i a ha => ?_) (fun i a ha => (h2 i a ha).1)
    · have : i < cs.size := by simp at h1; omega
      simp [this]
    · obtain ⟨_, v, hv, hr⟩ := h2 i a ha
      have : cs.getD i undef = v := by simp at hv; simp [Array.getD_eq_getD_getElem?, hv]
      rw [this]; exact hr
  | .bool b, a, h => by simp [ofValue] at h; subst h; exact .bool
  | .int k n, a, h => by simp [ofValue] at h; subst h; exact .int
  | .string s, a, h => by simp [ofValue] at h; subst h; exact .str
  | .pointer none, a, h => by simp [ofValue] at h; subst h; exact .nilp
  | .pointer (some _), a, h => by simp [ofValue] at h
  | .slice none 0 0, a, h => by simp [ofValue] at h; subst h; exact .nils
  | .slice none (_ + 1) _, a, h => by simp [ofValue] at h
  | .slice none 0 (_ + 1), a, h => by simp [ofValue] at h
  | .slice (some _) _ _, a, h => by simp [ofValue] at h
  | .map none, a, h => by simp [ofValue] at h; subst h; exact .nilm
  | .map (some _), a, h => by simp [ofValue] at h
  | .nilIface, a, h => by simp [ofValue] at h; subst h; exact .nili
  | .nilFunc, a, h => by simp [ofValue] at h; subst h; exact .nilf
  | .float _ _, a, h => by simp [ofValue] at h
  | .complex _ _ _, a, h => by simp [ofValue] at h
  | .chan _, a, h => by simp [ofValue] at h
  | .func _ _ _, a, h => by simp [ofValue] at h
  | .iface _ _, a, h => by simp [ofValue] at h
  | .tuple _, a, h => by simp [ofValue] at h
theorem ofCells_sound : (l : List Value) → (as : List AV) → ofCells l = some as →
    as.length = l.length ∧ ∀ (i : Nat) (a : AV), as[i]? = some a → a.one = true ∧ ∃ v, l[i]? = some v ∧ VR g O S w lim a v
  | [], as, h => by simp [ofCells] at h; subst h; simp
  | .bool b :: r, as, h => by
    simp only [ofCells, Option.map_eq_some_iff] at h
    obtain ⟨l, h, rfl⟩ := h
    obtain ⟨h1, h2⟩ := ofCells_sound r l h
    refine ⟨by simp [h1], fun i a ha => ?_⟩
    cases i with
    | zero => simp at ha; subst ha; exact ⟨rfl, _, rfl, .bool⟩
    | succ i => simpa using h2 i a (by simpa using ha)
  | .int k n :: r, as, h => by
    simp only [ofCells, Option.map_eq_some_iff] at h
    obtain ⟨l, h, rfl⟩ := h
    obtain ⟨h1, h2⟩ := ofCells_sound r l h
    refine ⟨by simp [h1], fun i a ha => ?_⟩
    cases i with
    | zero => simp at ha; subst ha; exact ⟨rfl, _, rfl, .int⟩
    | succ i => simpa using h2 i a (by simpa using ha)
  | .string s :: r, as, h => by
    simp only [ofCells, Option.map_eq_some_iff] at h
    obtain ⟨l, h, rfl⟩ := h
    obtain ⟨h1, h2⟩ := ofCells_sound r l h
    refine ⟨by simp [h1], fun i a ha => ?_⟩
    cases i with
    | zero => simp at ha; subst ha; exact ⟨rfl, _, rfl, .str⟩
    | succ i => simpa using h2 i a (by simpa using ha)
  | .pointer none :: r, as, h => by
    simp only [ofCells, Option.map_eq_some_iff] at h
    obtain ⟨l, h, rfl⟩ := h
    obtain ⟨h1, h2⟩ := ofCells_sound r l h
    refine ⟨by simp [h1], fun i a ha => ?_⟩
    cases i with
    | zero => simp at ha; subst ha; exact ⟨rfl, _, rfl, .nilp⟩
    | succ i => simpa using h2 i a (by simpa using ha)
  | .slice none 0 0 :: r, as, h => by
    simp only [ofCells, Option.map_eq_some_iff] at h
    obtain ⟨l, h, rfl⟩ := h
    obtain ⟨h1, h2⟩ := ofCells_sound r l h
    refine ⟨by simp [h1], fun i a ha => ?_⟩
    cases i with
    | zero => simp at ha; subst ha; exact ⟨rfl, _, rfl, .nils⟩
    | succ i => simpa using h2 i a (by simpa using ha)
  | .map none :: r, as, h => by
    simp only [ofCells, Option.map_eq_some_iff] at h
    obtain ⟨l, h, rfl⟩ := h
    obtain ⟨h1, h2⟩ := ofCells_sound r l h
    refine ⟨by simp [h1], fun i a ha => ?_⟩
    cases i with
    | zero => simp at ha; subst ha; exact ⟨rfl, _, rfl, .nilm⟩
    | succ i => simpa using h2 i a (by simpa using ha)
  | .nilIface :: r, as, h => by
    simp only [ofCells, Option.map_eq_some_iff] at h
    obtain ⟨l, h, rfl⟩ := h
    obtain ⟨h1, h2⟩ := ofCells_sound r l h
    refine ⟨by simp [h1], fun i a ha => ?_⟩
    cases i with
    | zero => simp at ha; subst ha; exact ⟨rfl, _, rfl, .nili⟩
    | succ i => simpa using h2 i a (by simpa using ha)
  | .nilFunc :: r, as, h => by
    simp only [ofCells, Option.map_eq_some_iff] at h
    obtain ⟨l, h, rfl⟩ := h
    obtain ⟨h1, h2⟩ := ofCells_sound r l h
    refine ⟨by simp [h1], fun i a ha => ?_⟩
    cases i with
    | zero => simp at ha; subst ha; exact ⟨rfl, _, rfl, .nilf⟩
    | succ i => simpa using h2 i a (by simpa using ha)
  | .pointer (some _) :: _, as, h => by simp [ofCells] at h
  | .slice none (_ + 1) _ :: _, as, h => by simp [ofCells] at h
  | .slice none 0 (_ + 1) :: _, as, h => by simp [ofCells] at h
  | .slice (some _) _ _ :: _, as, h => by simp [ofCells] at h
  | .map (some _) :: _, as, h => by simp [ofCells] at h
  | .float _ _ :: _, as, h => by simp [ofCells] at h
  | .complex _ _ _ :: _, as, h => by simp [ofCells] at h
  | .chan _ :: _, as, h => by simp [ofCells] at h
  | .func _ _ _ :: _, as, h => by simp [ofCells] at h
  | .iface _ _ :: _, as, h => by simp [ofCells] at h
  | .tuple _ :: _, as, h => by simp [ofCells] at h
  | .agg _ :: _, as, h => by simp [ofCells] at h
end

/-- The address of a variable that is known. -/
theorem Sim.globVR (h : Sim g O S w) : ∀ n cs, GTab.tab n = some cs → VR g O S w 0 (.iptr cs) (.pointer (some ⟨n, 0, none⟩)) := fun n cs hn => by
  obtain ⟨h1, h2⟩ := h.glob n cs hn
  refine .iptr (fun i => (w.cell? ⟨n, i, none⟩).getD undef) (fun i hi => ?_) (fun _ => .inl h1) (fun i a ha => ?_) (fun i a ha => (h2 i a ha).1)
  · obtain ⟨_, v, q, _⟩ := h2 i cs[i] (List.getElem?_eq_getElem hi)
    rw [Nat.zero_add, q]; rfl
  · obtain ⟨_, v, q, r⟩ := h2 i a ha
    simp only [q, Option.getD_some]
    exact ofValue_sound v a r

/-- The slots of a frame. -/
def EnvR (g : Gh) (O : List ABlk) (S : List (List ABlk)) (w : World) (lim : Nat) (env : List AV) (tmps : Array Value) : Prop :=
  (tmps.size = env.length ∧ ∀ n cs, GTab.tab n = some cs → VR g O S w 0 (.iptr cs) (.pointer (some ⟨n, 0, none⟩))) ∧ ∀ i, VR g O S w lim (env.getD i .undef) (tmps.getD i undef)

theorem EnvR.mono (h : Mon g O S w g' O' S' w') {env tmps} (he : EnvR g O S w lim env tmps) : EnvR g' O' S' w' lim env tmps :=
  ⟨⟨he.1.1, fun n cs hn => (he.1.2 n cs hn).mono h⟩, fun i => (he.2 i).mono h⟩

theorem EnvR.set {env tmps} (he : EnvR g O S w lim env tmps) (d : Nat) {x : AV} {v : Value} (hv : VR g O S w lim x v) :
    EnvR g O S w lim (env.set d x) (tmps.setIfInBounds d v) := by
  refine ⟨⟨by simpa using he.1.1, he.1.2⟩, fun i => ?_⟩
  have h0 := he.2 i
  simp only [List.getD_eq_getElem?_getD, Array.getD_eq_getD_getElem?] at h0 ⊢
  rw [List.getElem?_set, Array.getElem?_setIfInBounds]
  by_cases e : d = i
  · subst e
    simp only [if_true]
    rw [he.1.1]
    split
    · exact hv
    · exact .undef
  · rw [if_neg e, if_neg e]; exact h0

theorem ev_sound {env : List AV} {tmps : Array Value} {defers : List Deferred} (he : EnvR g O S w lim env tmps) {x : Operand} {x' : Opd} (hx : copd x = some x') :
    VR g O S w lim (ev env x') (Act.eval ⟨tmps, defers⟩ x) := by
  cases x with
  | tmp t => simp [copd] at hx; subst hx; exact he.2 t
  | const v =>
    simp only [copd, Option.map_eq_some_iff] at hx
    obtain ⟨a, h, rfl⟩ := hx
    exact ofValue_sound v a h
  | global n =>
    simp only [copd, Option.map_eq_some_iff] at hx
    obtain ⟨cs, h, rfl⟩ := hx
    exact (he.1.2 n cs h).lim (Nat.zero_le _)
  | func f =>
    simp [copd] at hx; subst hx
    exact .func (fun _ => undef) (by simp) (fun i hi => by simp at hi) (fun i a ha => by simp at ha)

theorem tyOf_spec {t : TypeId} {n : Nat} {ag : Bool} (h : tyOf P t = some (n, ag)) : ∃ i d, P.info? t = some i ∧ P.underlying t = some d ∧ i.size = n ∧ ag = isAggD d := by
  unfold tyOf at h
  split at h
  · rename_i i d h1 h2
    simp at h
    exact ⟨i, d, h1, h2, h.1, h.2.symm⟩
  · cases h

theorem run_typeInfo_D {t : TypeId} {i : TypeInfo} (h : P.info? t = some i) (w : World) : (typeInfo t).run P w = .ok i w := by
  simp [typeInfo, program, Sem.run, h, pure]
theorem run_underlying_D {t : TypeId} {d : TypeDesc} (h : P.underlying t = some d) (w : World) : (underlying t).run P w = .ok d w := by
  simp [underlying, program, Sem.run, h, pure]
theorem run_sizeOf_D {t : TypeId} {i : TypeInfo} (h : P.info? t = some i) (w : World) : (Go.sizeOf t).run P w = .ok i.size w := by
  simp [Go.sizeOf, run_typeInfo_D h]
theorem run_isAgg_D {t : TypeId} {d : TypeDesc} (h : P.underlying t = some d) (w : World) : (isAgg t).run P w = .ok (isAggD d) w := by
  unfold isAgg
  simp only [Sem.run_bind, run_underlying_D h, Result.andThen_ok]
  cases d <;> rfl

theorem run_load_D {a : Addr} {v : Value} (h : w.cell? a = some v) : (load a).run P w = .ok v w := by
  simp [load, Sem.run, h]

/-- Reading a variable whose cells are known. -/
theorem run_loadVar_D {t : TypeId} {n : Nat} {ag : Bool} (ht : tyOf P t = some (n, ag)) {c off : Nat} {cs : List AV}
    (hcell : ∀ (j : Nat) (a : AV), cs[j]? = some a → a.one = true ∧ ∃ v, w.cell? ⟨c, off + j, none⟩ = some v ∧ VR g O S w lim a v) {r : AV} (h : takeV n ag cs = some r) :
    ∃ v', (loadVar t ⟨c, off, none⟩).run P w = .ok v' w ∧ VR g O S w lim r v' := by
  obtain ⟨i, d, h1, h2, rfl, rfl⟩ := tyOf_spec ht
  unfold takeV at h
  unfold loadVar
  simp only [Sem.run_bind, run_isAgg_D h2, Result.andThen_ok]
  cases hd : isAggD d with
  | false =>
    simp only [hd, Bool.false_eq_true, if_false] at h ⊢
    obtain ⟨_, v, hv, hr⟩ := hcell 0 r h
    exact ⟨v, run_load_D hv, hr⟩
  | true =>
    simp only [hd, if_true] at h ⊢
    split at h
    · rename_i hle
      simp at h; subst h
      have hval : ∀ j, j < i.size → ∃ a v, cs[j]? = some a ∧ a.one = true ∧ w.cell? ⟨c, off + j, none⟩ = some v ∧ VR g O S w lim a v := fun j hj => by
        have hj' : j < cs.length := by omega
        obtain ⟨p, v, q, r⟩ := hcell j _ (List.getElem?_eq_getElem hj')
        exact ⟨_, v, List.getElem?_eq_getElem hj', p, q, r⟩
      let f : Nat → Value := fun j => (w.cell? ⟨c, off + j, none⟩).getD undef
      have hf : ∀ j, j < i.size → w.cell? ((⟨c, off, none⟩ : Addr).add j) = some (f j) := fun j hj => by
        obtain ⟨a, v, _, _, q, _⟩ := hval j hj
        rw [addr_add]
        simp [f, q]
      refine ⟨.agg ((List.range i.size).map f).toArray, by simp [run_sizeOf_D h1, run_loadCells w _ i.size f hf, Sem.run, pure], ?_⟩
      refine .agg f (by simp; omega) (fun j hj => ?_) (fun j a ha => ?_) (fun j a ha => ?_)
      · have hj : j < i.size := by simp at hj; omega
        simp [hj]
      · rw [List.getElem?_take] at ha
        split at ha
        · rename_i hj
          obtain ⟨a', v, q1, q2, q3, q4⟩ := hval j hj
          rw [ha] at q1; cases q1
          simp only [f, q3, Option.getD_some]
          exact q4
        · cases ha
      · rw [List.getElem?_take] at ha
        split at ha
        · rename_i hj
          obtain ⟨a', v, q1, q2, q3, q4⟩ := hval j hj
          rw [ha] at q1; cases q1
          exact q2
        · cases ha
    · cases h

theorem VR.limS {d : Nat} (hd : d < lim) {a : AV} {v : Value} (h : VR g O S w (d + 1) a v) : VR g O S w lim a v := h.lim (by omega)

/-- What an address that may be read stands for. -/
theorem ald_cells (hsim : Sim g O S w) {a : AV} {x : Value} (hx : VR g O S w lim a x) {n : Nat} {ag : Bool} {r : AV} (h : ald O S n ag a = some r) :
    ∃ c off cs, x = .pointer (some ⟨c, off, none⟩) ∧ takeV n ag cs = some r ∧
      ∀ (j : Nat) (a : AV), cs[j]? = some a → a.one = true ∧ ∃ v, w.cell? ⟨c, off + j, none⟩ = some v ∧ VR g O S w lim a v := by
  cases a <;> simp only [ald] at h <;> try (cases h; done)
  case ref d k off =>
    cases hx with
    | ref hd hb hr =>
      rename_i c
      split at h
      · rename_i cs hg
        obtain ⟨vs, ⟨ty, fr, p1, p2⟩, p3, p4⟩ := hsim.blk d k c _ hr hg
        refine ⟨c, off, cs.drop off, rfl, h, fun j a ha => ?_⟩
        rw [List.getElem?_drop] at ha
        obtain ⟨q1, v, q2, q3⟩ := p4 _ _ ha
        exact ⟨q1, v, by simp [World.cell?, p1, q2], q3.limS hd⟩
      · cases h
  case bptr d k off tot =>
    cases hx with
    | bptr hd hb =>
      rename_i a
      obtain ⟨sz, cs, hg, ht, hu, hm⟩ := hb
      rw [hg] at h
      simp only at h
      split at h
      · rename_i he
        have hm := hm he
        split at hm
        · exact hm.elim
        · rename_i hr; obtain ⟨_, hcap⟩ := hm; cases hcap
        · rename_i c hr
          obtain ⟨ha, _⟩ := hm
          rcases ha with ha | ha
          · cases ha
          · cases ha
            obtain ⟨vs, ⟨ty, fr, p1, p2⟩, p3, p4⟩ := hsim.blk d k c _ hr hg
            refine ⟨c, off, cs.drop off, rfl, h, fun j a ha => ?_⟩
            rw [List.getElem?_drop] at ha
            obtain ⟨q1, v, q2, q3⟩ := p4 _ _ ha
            exact ⟨q1, v, by simp [World.cell?, p1, q2], q3.limS hd⟩
      · cases h
  case iptr cs =>
    cases hx with
    | iptr f hc hi hv h1 =>
      rename_i c off
      refine ⟨c, off, cs, rfl, h, fun j a ha => ⟨h1 j a ha, f j, hc j ?_, (hv j a ha).lim (by omega)⟩⟩
      rcases Nat.lt_or_ge j cs.length with h' | h'
      · exact h'
      · rw [List.getElem?_eq_none h'] at ha; cases ha

theorem run_load_sound (hsim : Sim g O S w) {t : TypeId} {n : Nat} {ag : Bool} (ht : tyOf P t = some (n, ag)) {a : AV} {x : Value} (hx : VR g O S w lim a x)
    {r : AV} (h : ald O S n ag a = some r) : ∃ v', (Instr.loadAt t x).run P w = .ok v' w ∧ VR g O S w lim r v' := by
  obtain ⟨c, off, cs, rfl, h1, h2⟩ := ald_cells hsim hx h
  obtain ⟨v', e, hv⟩ := run_loadVar_D ht h2 h1
  exact ⟨v', by simp [Instr.loadAt, Instr.sureAddr, pure, Sem.run, e], hv⟩

end
end Den
