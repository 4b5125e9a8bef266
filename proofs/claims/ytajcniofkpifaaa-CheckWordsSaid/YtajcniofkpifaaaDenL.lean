/- Every operation that leaves the memory as it is. -/
import Derived.Test.YtajcniofkpifaaaDenK
import Derived.Laws.BytesArg
set_option linter.unusedSectionVars false
set_option linter.unusedVariables false
set_option linter.unusedSimpArgs false
namespace Den
open Go
variable [GTab]

section
variable {P : Program} {g : Gh} {O : List ABlk} {S : List (List ABlk)} {w : World} {lim : Nat}

theorem run_zero_D {t : TypeId} {z : List AV} (h : zeroOf P t = some z) (g : Gh) (O S) (w : World) (lim : Nat) :
    ∃ v i, (zeroValue t).run P w = .ok v w ∧ P.info? t = some i ∧ z.length = i.size ∧ CellsR g O S w lim z v.cells := by
  unfold zeroOf at h
  split at h
  · rename_i i hi
    split at h
    · rename_i zv hz
      simp only [Option.bind_eq_some_iff] at h
      obtain ⟨a, ha, h⟩ := h
      split at h
      · rename_i hl
        simp at h; subst h
        have hv := ofValue_sound (g := g) (O := O) (S := S) (w := w) (lim := lim) zv a ha
        have hok : a.okv = true := by
          unfold ofValue at ha
          split at ha <;> simp at ha <;> first | (subst ha; rfl) | (obtain ⟨l, _, rfl⟩ := ha; rfl) | skip
        exact ⟨zv, i, by simp [zeroValue, run_typeInfo_D hi, hz, pure], hi, hl, cells_of hv hok⟩
      · cases h
    · cases h
  · cases h

theorem copds_spec {env : List AV} {tmps : Array Value} {defers : List Deferred} (he : EnvR g O S w lim env tmps) : ∀ (l : List Operand) (l' : List Opd), copds l = some l' →
    l'.length = l.length ∧ ∀ (i : Nat) (y : Opd), l'[i]? = some y → ∃ o, l[i]? = some o ∧ VR g O S w lim (ev env y) (Act.eval ⟨tmps, defers⟩ o)
  | [], l', h => by simp [copds] at h; subst h; simp
  | x :: r, l', h => by
    simp only [copds] at h
    split at h
    · rename_i x' r' h1 h2
      simp at h; subst h
      obtain ⟨q1, q2⟩ := copds_spec he r r' h2
      refine ⟨by simp [q1], fun i y hy => ?_⟩
      cases i with
      | zero => simp at hy; subst hy; exact ⟨x, rfl, ev_sound he h1⟩
      | succ i => simpa using q2 i y (by simpa using hy)
    · cases h

theorem bytesOf_spec : ∀ (cs : List AV) (bs : List UInt8), bytesOf cs = some bs → ∃ xs : List Int, cs = xs.map (AV.int .u8) ∧ bs = xs.map fun n => UInt8.ofNat n.toNat
  | [], bs, h => by simp [bytesOf] at h; exact ⟨[], rfl, h⟩
  | c :: r, bs, h => by
    unfold bytesOf at h
    split at h
    · rename_i e; cases e
    · rename_i n r' e
      cases e
      simp only [Option.map_eq_some_iff] at h
      obtain ⟨l, hl, rfl⟩ := h
      obtain ⟨xs, rfl, rfl⟩ := bytesOf_spec r l hl
      exact ⟨n :: xs, rfl, rfl⟩
    · cases h

theorem run_cvs {src dst e : TypeId} (hs : P.underlying src = some (.slice e)) (he : P.underlying e = some (.int .u8)) (hd : P.underlying dst = some .string)
    {a : Option Addr} {n cap : Nat} {cs : List AV} {bs : List UInt8} (hb : bytesOf cs = some bs) (hl : cs.length = n)
    (hc : ∀ (i : Nat) (y : AV), cs[i]? = some y → ∃ c off, a = some ⟨c, off, none⟩ ∧ y.one = true ∧ ∃ z, w.cell? ⟨c, off + i, none⟩ = some z ∧ VR g O S w lim y z) :
    (convert src dst (.slice a n cap)).run P w = .ok (.string ⟨bs.toArray⟩) w := by
  obtain ⟨xs, rfl, rfl⟩ := bytesOf_spec cs bs hb
  simp at hl
  cases xs with
  | nil =>
    simp at hl; subst hl
    rw [run_convert_bytes_string w src dst e a 0 cap hs he hd]
    cases a with
    | none => simp [Conv.bytesToString, pure]; rfl
    | some a =>
      have := run_bytesToString (P := P) w a 0 cap [] rfl
      rw [this]; rfl
  | cons x xs =>
    obtain ⟨c, off, rfl, _⟩ := hc 0 (.int .u8 x) rfl
    rw [run_convert_bytes_arg w src e hs he c off n cap (x :: xs) hl (fun i hi => ?_) dst hd]
    · rfl
    · have hi' : i < ((x :: xs).map (AV.int .u8)).length := by simp at hl ⊢; omega
      obtain ⟨c', off', e1, _, z, hz, hr⟩ := hc i _ (List.getElem?_eq_getElem hi')
      simp at e1; obtain ⟨rfl, rfl⟩ := e1
      rw [hz]
      rw [List.getElem_map] at hr
      cases hr
      congr 1
      have : i < (x :: xs).length := by simpa using hi'
      simp [List.getD, List.getElem?_eq_getElem this]

/-- The arguments of a call. -/
theorem args_map {env : List AV} {tmps : Array Value} {defers : List Deferred} (he : EnvR g O S w lim env tmps) {c : Array Operand} {l' : List Opd} (h : copds c.toList = some l') :
    (c.map (Act.eval ⟨tmps, defers⟩)).size = (l'.map (ev env)).length ∧
    ∀ (i : Nat) (x : AV), (l'.map (ev env))[i]? = some x → ∃ v, (c.map (Act.eval ⟨tmps, defers⟩))[i]? = some v ∧ VR g O S w lim x v := by
  obtain ⟨h1, h2⟩ := copds_spec (defers := defers) he c.toList l' h
  refine ⟨by simp [h1], fun i x hx => ?_⟩
  rw [List.getElem?_map] at hx
  cases hy : l'[i]? with
  | none => rw [hy] at hx; cases hx
  | some y =>
    rw [hy] at hx; cases hx
    obtain ⟨o, ho, hv⟩ := h2 i y hy
    refine ⟨_, ?_, hv⟩
    simp at ho
    simp [ho]

theorem mxStep_none (isMax : Bool) (env : List AV) : ∀ l : List Opd, l.foldl (mxStep isMax env) none = none
  | [] => rfl
  | _ :: l => by rw [List.foldl_cons]; exact mxStep_none isMax env l

theorem mxStep_spec {isMax : Bool} {env : List AV} {x r : AV} {y : Opd} (h : mxStep isMax env (some x) y = some r) :
    ∃ k a b, x = .int k a ∧ ev env y = .int k b ∧ r = .int k (if isMax then (if b > a then b else a) else (if b < a then b else a)) := by
  unfold mxStep at h
  split at h
  · rename_i k a k' b e1 e2
    cases e1
    by_cases hk : k = k'
    · subst hk; rw [if_pos rfl] at h; cases h; exact ⟨_, _, _, rfl, e2, rfl⟩
    · rw [if_neg hk] at h; cases h
  · cases h

theorem run_mx {isMax : Bool} {env : List AV} {tmps : Array Value} {defers : List Deferred} (he : EnvR g O S w lim env tmps) : ∀ (l : List Operand) (l' : List Opd), copds l = some l' →
    ∀ (x r : AV) (v : Value), VR g O S w lim x v → l'.foldl (mxStep isMax env) (some x) = some r →
    ∃ v', ((l.map (Act.eval ⟨tmps, defers⟩)).foldlM (if isMax then Builtin.max2 else Builtin.min2) v).run P w = .ok v' w ∧ VR g O S w lim r v'
  | [], l', h, x, r, v, hx, hr => by
    simp [copds] at h; subst h
    simp at hr; subst hr
    exact ⟨v, rfl, hx⟩
  | o :: l, l', h, x, r, v, hx, hr => by
    simp only [copds] at h
    split at h
    · rename_i y r' h1 h2
      simp at h; subst h
      have hy := ev_sound (defers := defers) he h1
      rw [List.foldl_cons] at hr
      cases hs : mxStep isMax env (some x) y with
      | none => rw [hs, mxStep_none] at hr; cases hr
      | some z =>
        rw [hs] at hr
        obtain ⟨k, a, b, rfl, e2, rfl⟩ := mxStep_spec hs
        rw [e2] at hy
        have hov : Act.eval ⟨tmps, defers⟩ o = .int k b := by
          generalize Act.eval ⟨tmps, defers⟩ o = ov at hy ⊢
          cases hy; rfl
        obtain ⟨v', e1, e2⟩ := run_mx (defers := defers) he l r' h2 _ r (.int k (if isMax then (if b > a then b else a) else (if b < a then b else a))) .int hr
        refine ⟨v', ?_, e2⟩
        rw [List.map_cons, List.foldlM_cons]
        cases hx
        simp only [Sem.run_bind, hov]
        cases isMax <;> simp only [Builtin.max2, Builtin.min2, Bool.false_eq_true, if_false, if_true] at e1 ⊢ <;> exact e1
    · cases h

theorem un_sound {op : UnOp} {x r : AV} {v : Value} (hx : VR g O S w lim x v) (h : un op x = some r) : ∃ v', (Op.unary op v).run P w = .ok v' w ∧ VR g O S w lim r v' := by
  unfold un at h
  split at h <;> cases h <;> cases hx
  · exact ⟨_, rfl, .int⟩
  · exact ⟨_, rfl, .bool⟩

theorem tup_get {vs : List AV} {v : Value} (h : VR g O S w lim (.tup vs) v) {i : Nat} {r : AV} (hi : vs[i]? = some r) : ∃ v', (Instr.extract v i).run P w = .ok v' w ∧ VR g O S w lim r v' := by
  cases h with
  | tup f hs hf hv =>
    have hlt : i < vs.length := by
      rcases Nat.lt_or_ge i vs.length with h' | h'
      · exact h'
      · rw [List.getElem?_eq_none h'] at hi; cases hi
    exact ⟨f i, by simp [Instr.extract, hf i hlt, pure], hv i r hi⟩

theorem nilAhead_mok {t : TypeId} {name : String} (h : mok P t name = true) (v : Value) (w : World) (fuel : Nat) : (nilAhead (fuel + 1) t v name).run P w = .ok (some false) w := by
  unfold mok at h
  split at h
  · rename_i i hi
    split at h
    · rename_i m hm
      simp only [Bool.and_eq_true] at h
      obtain ⟨h1, h2⟩ := h
      split at h2
      · rename_i f b hf
        subst h2
        have hp : m.path.toList = [] := by
          have : m.path = #[] := by simpa using h1
          rw [this]
        unfold nilAhead
        simp only [Sem.run_bind, run_typeInfo_D hi, Result.andThen_ok, hm, hp, followBlind, Sem.run_pure, hf]
      · cases h2
    · cases h
  · cases h

theorem nilc_sound {x : AV} {X : Operand} {v : Value} (hx : VR g O S w lim x v) (h : nilOkA (mok P) x = true)
    {o : Oper} (ho : o.op = .nilCheck X) {ρ : Operand → Value} (hv : ρ X = v) : (execOp ρ o).run P w = .ok (.value v) w := by
  simp only [execOp, ho, hv]
  cases hx <;> simp [nilOkA] at h <;> try rfl
  case fm t name u =>
    have hn := nilAhead_mok (P := P) h u w (P.types.size + 99)
    have hd : P.types.size + Made.depth = P.types.size + 99 + 1 := rfl
    simp only [List.getElem?_toArray, List.getElem?_cons_zero, Sem.run_bind, Go.program, Sem.run, Result.andThen_ok, hd, hn]
    rfl

theorem run_ixv {t e : TypeId} {n sz : Nat} {ag : Bool} (hu : P.underlying t = some (.array n e)) (ht : tyOf P e = some (sz, ag)) {cs : List AV} {i : AV} {v vi : Value}
    (hx : VR g O S w lim (.agg cs) v) (hi : VR g O S w lim i vi) {ix : Nat} (hn : nth i = some ix) (hlt : ix < n) {r : AV} (h : takeV sz ag (cs.drop (ix * sz)) = some r) :
    ∃ v', (Instr.index t v vi).run P w = .ok v' w ∧ VR g O S w lim r v' := by
  obtain ⟨vs, rfl, _⟩ := agg_inv hx
  obtain ⟨k, m, rfl, h0, rfl⟩ := nth_spec hn hi
  obtain ⟨inf, d, h1, h2, rfl, rfl⟩ := tyOf_spec ht
  obtain ⟨v', e1, e2⟩ := run_part_D ht hx h
  refine ⟨v', ?_, e2⟩
  unfold Instr.index
  simp only [Sem.run_bind, run_asIntOf, run_underlying_D hu, Result.andThen_ok]
  rw [if_pos ⟨h0, by omega⟩]
  simp only [Sem.run_bind, run_sizeOf_D h1, Result.andThen_ok, e1]

theorem run_fdv {t : TypeId} {fs : Array Field} {f n : Nat} {ag : Bool} {fd : Field} (hu : P.underlying t = some (.struct fs)) (hf : fs[f]? = some fd) (ht : tyOf P fd.type = some (n, ag))
    {cs : List AV} {v : Value} (hx : VR g O S w lim (.agg cs) v) {r : AV} (h : takeV n ag (cs.drop fd.offset) = some r) :
    ∃ v', (Instr.field t v f).run P w = .ok v' w ∧ VR g O S w lim r v' := by
  obtain ⟨vs, rfl, _⟩ := agg_inv hx
  obtain ⟨v', e1, e2⟩ := run_part_D ht hx h
  refine ⟨v', ?_, e2⟩
  unfold Instr.field
  simp only [Sem.run_bind, run_underlying_D hu, Result.andThen_ok, hf]
  simp only [asAgg, pure, Sem.run, Result.andThen_ok, e1]

theorem run_sls {t : TypeId} (hu : P.underlying t = some .string) {env : List AV} {tmps : Array Value} {defers : List Deferred}
    (henv : EnvR g O S w lim env tmps) {lo hi : Option Operand} {lo' hi' : Option Opd} (hlo : copdO lo = some lo') (hhi : copdO hi = some hi') {s : List UInt8} {v : Value}
    (hx : VR g O S w lim (.str s) v) {l h : Nat} (hb : bounds env lo' hi' s.length = some (l, h)) :
    ∃ v', (Instr.sliceAt t v (lo.map (Act.eval ⟨tmps, defers⟩)) (hi.map (Act.eval ⟨tmps, defers⟩)) none).run P w = .ok v' w ∧ VR g O S w lim (.str ((s.drop l).take (h - l))) v' := by
  cases hx
  obtain ⟨e1, e2, e3⟩ := run_sliceBounds (P := P) (defers := defers) henv hlo hhi hb (Nat.le_refl _) false
  unfold Instr.sliceAt
  simp only [Sem.run_bind, run_underlying_D hu, Result.andThen_ok]
  unfold Instr.slice
  simp only [Sem.run_bind, run_underlying_D hu, Result.andThen_ok, Option.isSome_none, Bool.false_eq_true, if_false]
  have hs : (ByteArray.mk s.toArray).size = s.length := by simp [ByteArray.size]
  rw [hs]
  have : (ByteArray.mk s.toArray).extract l h = ⟨((s.drop l).take (h - l)).toArray⟩ := by
    apply ByteArray.ext
    simp [ByteArray.data_extract]
  refine ⟨.string ((ByteArray.mk s.toArray).extract l h), by simp [pure, e1], ?_⟩
  rw [this]; exact .str

theorem run_slc_arr {t e : TypeId} {n sz : Nat} {ag : Bool} (hu : P.underlying t = some (.array n e)) (ht : tyOf P e = some (sz, ag)) {env : List AV} {tmps : Array Value} {defers : List Deferred}
    (henv : EnvR g O S w lim env tmps) {lo hi : Option Operand} {lo' hi' : Option Opd} (hlo : copdO lo = some lo') (hhi : copdO hi = some hi') {d k off : Nat} {v : Value}
    (hx : VR g O S w lim (.ref d k off) v) {l h : Nat} (hb : bounds env lo' hi' n = some (l, h)) :
    ∃ v', (Instr.sliceAt t v (lo.map (Act.eval ⟨tmps, defers⟩)) (hi.map (Act.eval ⟨tmps, defers⟩)) none).run P w = .ok v' w ∧ VR g O S w lim (.sref d k (off + l * sz) (h - l) (n - l)) v' := by
  obtain ⟨inf, dd, h1, h2, rfl, rfl⟩ := tyOf_spec ht
  cases hx with
  | ref hd hbk hr =>
    obtain ⟨e1, e2, e3⟩ := run_sliceBounds (P := P) (defers := defers) henv hlo hhi hb (Nat.le_refl _) false
    unfold Instr.sliceAt
    simp only [Sem.run_bind, run_underlying_D hu, Result.andThen_ok]
    simp only [Instr.sureAddr, pure, Sem.run, Result.andThen_ok, e1, run_sizeOf_D h1]
    refine ⟨_, rfl, ?_⟩
    by_cases hz : n = l
    · rw [if_pos hz]; exact .sref hd hbk hr (by omega) (.inl (by omega))
    · rw [if_neg hz]; exact .sref hd hbk hr (by omega) (.inr (by rw [addr_add]))

end
end Den
