/- Regions whose order is drawn: the plain part. -/
import Derived.Test.YtajcniofkpifaaaDenW
set_option linter.unusedSectionVars false
set_option linter.unusedVariables false
set_option linter.unusedSimpArgs false
namespace Den
open Go
variable [GTab]

/-! ### Slots, written by some of the operations -/

def setO (env : List AV) (d : Option Nat) (v : AV) : List AV := match d with | some d => env.set d v | none => env

theorem setO_length {env : List AV} {d : Option Nat} {v : AV} : (setO env d v).length = env.length := by cases d <;> simp [setO]

theorem setO_getD {env : List AV} {d : Option Nat} {v : AV} {s : Nat} : (setO env d v).getD s .undef = if d = some s ∧ s < env.length then v else env.getD s .undef := by
  cases d with
  | none => simp [setO]
  | some d =>
    simp only [setO, List.getD_eq_getElem?_getD, List.getElem?_set, Option.some.injEq]
    by_cases h : d = s
    · subst h
      by_cases h2 : d < env.length
      · simp [h2]
      · simp only [h2, and_false, if_false, if_true]
        simp [List.getElem?_eq_none (show env.length ≤ d by omega)]
    · simp [h]

def envD (dst : Nat → Option Nat) (val : Nat → AV) (env0 : List AV) (D : Nat → Bool) : Nat → List AV
  | 0 => env0
  | p + 1 => if D p = true then setO (envD dst val env0 D p) (dst p) (val p) else envD dst val env0 D p

section
variable {dst : Nat → Option Nat} {val : Nat → AV} {env0 : List AV} {D D' : Nat → Bool}

theorem envD_length : ∀ p, (envD dst val env0 D p).length = env0.length
  | 0 => rfl
  | p + 1 => by simp only [envD]; split <;> simp [setO_length, envD_length p]

theorem envD_none (h : ∀ q, D q = false) : ∀ p, envD dst val env0 D p = env0
  | 0 => rfl
  | p + 1 => by simp [envD, h p, envD_none h p]

theorem envD_agree {s : Nat} : ∀ m, (∀ q, q < m → dst q = some s → D q = D' q) → (envD dst val env0 D m).getD s .undef = (envD dst val env0 D' m).getD s .undef
  | 0, _ => rfl
  | m + 1, h => by
    have ih := envD_agree m fun q hq => h q (by omega)
    simp only [envD]
    by_cases hd : dst m = some s
    · rw [h m (by omega) hd]
      split
      · rw [setO_getD, setO_getD, envD_length, envD_length, ih]
      · exact ih
    · have h1 : ∀ (e : List AV), (setO e (dst m) (val m)).getD s .undef = e.getD s .undef := fun e => by rw [setO_getD, if_neg (by simp [hd])]
      split <;> split <;> simp only [h1, ih]

theorem envD_skip {s p : Nat} : ∀ m, p ≤ m → (∀ q, p ≤ q → q < m → dst q = some s → D q = false) → (envD dst val env0 D m).getD s .undef = (envD dst val env0 D p).getD s .undef
  | 0, hp, _ => by have : p = 0 := by omega
                   subst this; rfl
  | m + 1, hp, h => by
    by_cases e : p = m + 1
    · subst e; rfl
    · have ih := envD_skip m (by omega) fun q h1 h2 => h q h1 (by omega)
      simp only [envD]
      split
      · rename_i hD
        rw [setO_getD, if_neg, ih]
        rintro ⟨hd, -⟩
        rw [h m (by omega) (by omega) hd] at hD; cases hD
      · exact ih

theorem env_at {s p n : Nat} (hp : p ≤ n) (h : ∀ q, q < n → dst q = some s → (D q = true ↔ q < p)) :
    (envD dst val env0 D n).getD s .undef = (envD dst val env0 (fun _ => true) p).getD s .undef := by
  rw [envD_skip n hp fun q h1 h2 hd => by
    cases hD : D q with
    | false => rfl
    | true => have := (h q h2 hd).1 hD; omega]
  exact envD_agree p fun q hq hd => (h q (by omega) hd).2 hq

theorem envD_put {p n : Nat} (hp : p < n) (hD : D' = fun q => q == p || D q) (h0 : D p = false) (h : ∀ q d, q < n → q ≠ p → dst p = some d → dst q = some d → D q = true → q < p) (s : Nat) :
    (envD dst val env0 D' n).getD s .undef = (setO (envD dst val env0 D n) (dst p) (val p)).getD s .undef := by
  subst hD
  by_cases hd : dst p = some s
  · rw [envD_skip (p := p + 1) n (by omega) fun q h1 h2 hq => by
      have : D q = false := by
        cases hD : D q with
        | false => rfl
        | true => have := h q s h2 (by omega) hd hq hD; omega
      simp [this]; omega]
    simp only [envD, beq_self_eq_true, Bool.true_or, if_true]
    rw [setO_getD, setO_getD, envD_length, envD_length]
    by_cases hs : s < env0.length
    · simp [hd, hs]
    · simp only [hs, and_false, if_false]
      rw [List.getD_eq_getElem?_getD, List.getD_eq_getElem?_getD, List.getElem?_eq_none (by rw [envD_length]; omega), List.getElem?_eq_none (by rw [envD_length]; omega)]
  · rw [setO_getD, if_neg (by simp [hd])]
    refine envD_agree n fun q _ hq => ?_
    have : q ≠ p := by rintro rfl; exact hd hq
    simp [this]
end

/-! ### A run, step by step -/

def TStep (cfg : Cfg) (call : FuncId → List AV → List ABlk → List (List ABlk) → Ans) (a : AOp) (s : St) (v : AV) (s' : St) : Prop :=
  (wanted s.env a.guard = some false ∧ v = .tup [] ∧ s' = put s a.dst (.tup [])) ∨
  (wanted s.env a.guard = some true ∧ ∃ O' S', opx cfg call s a.op = some (v, O', S') ∧ chks { s with O := O', S := S' } a.chk = true ∧ s' = put { s with O := O', S := S' } a.dst v)

theorem exec_trace {cfg : Cfg} {call : FuncId → List AV → List ABlk → List (List ABlk) → Ans} : ∀ (l : List AOp) (st st' : St), execOps cfg call l st = some st' →
    ∃ (c : Nat → St) (val : Nat → AV), c 0 = st ∧ c l.length = st' ∧ ∀ (p : Nat) (a : AOp), l[p]? = some a → TStep cfg call a (c p) (val p) (c (p + 1))
  | [], st, st', h => by
    simp [execOps] at h; subst h
    exact ⟨fun _ => st, fun _ => .undef, rfl, rfl, fun p a h => by simp at h⟩
  | o :: l, st, st', h => by
    have key : ∀ (st1 : St) (v : AV), TStep cfg call o st v st1 → execOps cfg call l st1 = some st' →
        ∃ (c : Nat → St) (val : Nat → AV), c 0 = st ∧ c (o :: l).length = st' ∧ ∀ (p : Nat) (a : AOp), (o :: l)[p]? = some a → TStep cfg call a (c p) (val p) (c (p + 1)) := by
      intro st1 v ht he
      obtain ⟨c, val, h1, h2, h3⟩ := exec_trace l st1 st' he
      refine ⟨fun p => match p with | 0 => st | p + 1 => c p, fun p => match p with | 0 => v | p + 1 => val p, rfl, h2, fun p a hp => ?_⟩
      cases p with
      | zero => simp at hp; subst hp; simp only [h1]; exact ht
      | succ p => exact h3 p a (by simpa using hp)
    unfold execOps at h
    split at h
    · cases h
    · rename_i hw
      exact key _ _ (.inl ⟨hw, rfl, rfl⟩) h
    · rename_i hw
      split at h
      · cases h
      · rename_i v O' S' hx
        split at h
        · rename_i hc
          exact key _ _ (.inr ⟨hw, O', S', hx, hc, rfl⟩) h
        · cases h

theorem put_env (s : St) (d : Option Nat) (v : AV) : (put s d v).env = setO s.env d v := by cases d <;> rfl
theorem put_O (s : St) (d : Option Nat) (v : AV) : (put s d v).O = s.O := by cases d <;> rfl
theorem put_S (s : St) (d : Option Nat) (v : AV) : (put s d v).S = s.S := by cases d <;> rfl

theorem TStep.env {cfg : Cfg} {call : FuncId → List AV → List ABlk → List (List ABlk) → Ans} {a : AOp} {s s' : St} {v : AV} (h : TStep cfg call a s v s') : s'.env = setO s.env a.dst v := by
  rcases h with ⟨_, rfl, rfl⟩ | ⟨_, O', S', _, _, rfl⟩ <;> rw [put_env]

/-! ### What kinds there are -/

theorem cls_noneff {o : AO} (h : o.isEff = false) : (o.isCall = false) ∧ (o.still = true ∨ o.cls = .new) := by
  cases o <;> simp_all [AO.isEff, AO.isCall, AO.still, AO.cls]

theorem new_shape {env : List AV} {O O' : List ABlk} {S S' : List (List ABlk)} {o : AO} {v : AV} (hn : o.cls = .new) (h : aop { env, O, S } o = some (v, O', S')) :
    (O' = O ∧ S' = S) ∨ ∃ obj b, O' = newO O obj b ∧ S' = newS S obj b := by
  cases o <;> simp [AO.cls, AO.isCall, AO.still] at hn
  case alloc z obj => simp only [aop, Option.some.injEq, Prod.mk.injEq] at h; exact .inr ⟨obj, _, h.2.1.symm, h.2.2.symm⟩
  case box sz x obj =>
    simp only [aop] at h
    split at h
    · simp only [Option.some.injEq, Prod.mk.injEq] at h; exact .inr ⟨obj, _, h.2.1.symm, h.2.2.symm⟩
    · cases h
  case bslice z sz len ps buf obj =>
    simp only [aop, Option.bind_eq_some_iff] at h
    obtain ⟨cs, _, h⟩ := h
    split at h
    · split at h
      · simp only [Option.some.injEq, Prod.mk.injEq] at h; exact .inr ⟨obj, _, h.2.1.symm, h.2.2.symm⟩
      · cases h
    · split at h
      · simp only [Option.some.injEq, Prod.mk.injEq] at h; exact .inl ⟨h.2.1.symm, h.2.2.symm⟩
      · split at h
        · simp only [Option.some.injEq, Prod.mk.injEq] at h; exact .inl ⟨h.2.1.symm, h.2.2.symm⟩
        · cases h
  case mks z sz bytes l c obj =>
    simp only [aop] at h
    split at h
    · split at h
      · simp only [Option.some.injEq, Prod.mk.injEq] at h; exact .inr ⟨obj, _, h.2.1.symm, h.2.2.symm⟩
      · cases h
    · cases h
  case mkm obj => simp only [aop, Option.some.injEq, Prod.mk.injEq] at h; exact .inr ⟨obj, _, h.2.1.symm, h.2.2.symm⟩

theorem still_same {env : List AV} {O O' : List ABlk} {S S' : List (List ABlk)} {o : AO} {v : AV} (hs : o.still = true) (h : aop { env, O, S } o = some (v, O', S')) : O' = O ∧ S' = S := by
  cases hl : o.isLoad with
  | true => exact load_same hl h
  | false =>
    have := still_any hs hl h O S
    rw [h] at this
    simp only [Option.some.injEq, Prod.mk.injEq, true_and] at this
    exact this

/-- The memory behind a step that is no effect. -/
theorem TStep.mem {cfg : Cfg} {call : FuncId → List AV → List ABlk → List (List ABlk) → Ans} {a : AOp} {s s' : St} {v : AV} (h : TStep cfg call a s v s') (he : a.op.isEff = false) :
    (s'.O = s.O ∧ s'.S = s.S) ∨ ∃ obj b, s'.O = newO s.O obj b ∧ s'.S = newS s.S obj b := by
  rcases h with ⟨_, rfl, rfl⟩ | ⟨_, O', S', hx, _, rfl⟩
  · exact .inl ⟨put_O .., put_S ..⟩
  · rw [put_O, put_S]
    obtain ⟨h1, h2⟩ := cls_noneff he
    unfold opx at hx
    rw [if_neg (by simp [h1])] at hx
    rcases h2 with h2 | h2
    · exact .inl (still_same h2 hx)
    · exact new_shape h2 hx

/-! ### What the check of an order tells -/

structure DrF (ops : Array Oper) (as : List AOp) (an : List Nat) (ord : List Nat) (n : Nat) (ix : Nat → Nat) (A : Nat → AOp) (R : Nat → Nat → Bool) : Prop where
  hord : ord.length = n
  hix : ∀ p, p < n → ord[p]? = some (ix p)
  has : ∀ p, p < n → as[ix p]? = some (A p)
  hin : ∀ p, p < n → ix p < n
  hinj : ∀ p q, p < n → q < n → ix p = ix q → p = q
  hsur : ∀ i, i < n → ∃ p, p < n ∧ ix p = i
  hrel : ∀ p q, R p q = relA an (ix p) (ix q)
  hR : ∀ p q, p < n → q < n → R p q = true → p < q
  hcl : ∀ p q o, p < n → q < n → R p q = true → ops[ix q]? = some o → ix p ∈ anyOn o ∨ ∃ m ∈ anyOn o, relA an (ix p) m = true
  hdir : ∀ p q o, p < n → q < n → ops[ix q]? = some o → ix p ∈ anyOn o → R p q = true
  hon : ∀ q o, q < n → ops[ix q]? = some o → ∀ m ∈ anyOn o, m < n
  hC : ∀ p q, p < n → q < n → p ≠ q → R p q = false → R q p = false → dstIn (A p) (A q).looks = false ∧ sameDst (A p) (A q) = false
  hD : ∀ p q, p < n → q < n → p ≠ q → R p q = false → R q p = false → (A q).op.isEff = true → (A p).op.isEff = false ∧ p < q
  hL : ∀ p q, p < n → q < n → p < q → R p q = false → (A p).op.isLoad = true → (A q).op.isEff = true →
    ∃ d, (A p).dst = some d ∧ ∀ r, r < n → (p ≤ r → dstIn (A r) (A p).looks = false) ∧ (p < r → sameDst (A r) (A p) = false)

theorem orderOk_spec {ops : Array Oper} {as : List AOp} {an ord : List Nat} (h : orderOk ops as an ord = true) :
    ∃ ix A R, DrF ops as an ord ops.size ix A R := by
  simp only [orderOk, Bool.and_eq_true, beq_iff_eq, List.all_eq_true, List.mem_range] at h
  obtain ⟨⟨⟨h1, h2⟩, h3⟩, h4⟩ := h
  have hix : ∀ p, p < ops.size → ord[p]? = some (ord.getD p 0) := fun p hp => by
    have : p < ord.length := by omega
    simp [List.getD_eq_getElem?_getD, List.getElem?_eq_getElem this]
  have hin : ∀ p, p < ops.size → ord.getD p 0 < ops.size ∧ ord.idxOf (ord.getD p 0) = p := fun p hp => by
    have := h2 p hp
    rw [hix p hp] at this
    simpa using this
  have hsur : ∀ i, i < ops.size → ∃ p, p < ops.size ∧ ord.getD p 0 = i := fun i hi => by
    have := h3 i hi
    simp only [List.contains_iff_mem] at this
    obtain ⟨p, hp⟩ := List.mem_iff_getElem?.1 this
    have hpl : p < ord.length := by
      rcases Nat.lt_or_ge p ord.length with h' | h'
      · exact h'
      · rw [List.getElem?_eq_none h'] at hp; cases hp
    exact ⟨p, by omega, by rw [List.getD_eq_getElem?_getD, hp]; rfl⟩
  have hpair : ∀ p q, p < ops.size → q < ops.size → ∃ a b o, as[ord.getD p 0]? = some a ∧ as[ord.getD q 0]? = some b ∧ ops[ord.getD q 0]? = some o ∧
      pairOk an (ord.filterMap (as[·]?)) p q (ord.getD p 0) (ord.getD q 0) a b (anyOn o) = true := fun p q hp hq => by
    have := h4 q hq
    rw [hix q hq] at this
    simp only at this
    split at this
    · rename_i b o hb ho
      simp only [Bool.and_eq_true, List.all_eq_true, List.mem_range, decide_eq_true_eq] at this
      have := this.2 p hp
      rw [hix p hp] at this
      simp only at this
      split at this
      · rename_i a ha
        exact ⟨a, b, o, ha, hb, ho, this⟩
      · cases this
    · cases this
  have hon : ∀ q o, q < ops.size → ops[ord.getD q 0]? = some o → ∀ m ∈ anyOn o, m < ops.size := fun q o hq ho m hm => by
    have := h4 q hq
    rw [hix q hq] at this
    simp only at this
    split at this
    · rename_i b o' hb ho'
      rw [ho] at ho'; cases ho'
      simp only [Bool.and_eq_true, List.all_eq_true, List.mem_range, decide_eq_true_eq] at this
      exact this.1 m hm
    · cases this
  let ix : Nat → Nat := fun p => ord.getD p 0
  let A : Nat → AOp := fun p => as.getD (ord.getD p 0) default
  have has : ∀ p, p < ops.size → as[ord.getD p 0]? = some (A p) := fun p hp => by
    obtain ⟨a, _, _, ha, _⟩ := hpair p p hp hp
    rw [ha]
    show some a = some (as.getD (ord.getD p 0) default)
    rw [List.getD_eq_getElem?_getD, ha]; rfl
  have hits : ∀ p, p < ops.size → (ord.filterMap (as[·]?))[p]? = some (A p) := by
    have key : ∀ (l : List Nat), (∀ i ∈ l, (as[i]?).isSome = true) → ∀ (p : Nat), (l.filterMap (as[·]?))[p]? = (l[p]?).bind (as[·]?) := by
      intro l
      induction l with
      | nil => intro _ p; simp
      | cons i l ih =>
        intro hl p
        obtain ⟨a, ha⟩ := Option.isSome_iff_exists.1 (hl i (by simp))
        rw [List.filterMap_cons, ha]
        cases p with
        | zero => simp [ha]
        | succ p => simpa using ih (fun j hj => hl j (List.mem_cons_of_mem _ hj)) p
    intro p hp
    rw [key ord (fun i hi => by
      obtain ⟨q, hq⟩ := List.mem_iff_getElem?.1 hi
      have hql : q < ord.length := by
        rcases Nat.lt_or_ge q ord.length with h' | h'
        · exact h'
        · rw [List.getElem?_eq_none h'] at hq; cases hq
      have := has q (by omega)
      rw [List.getD_eq_getElem?_getD, hq] at this
      simp only [Option.getD_some] at this
      rw [this]; rfl) p, hix p hp]
    exact has p hp
  have hlen : (ord.filterMap (as[·]?)).length = ops.size := by
    rcases Nat.lt_trichotomy (ord.filterMap (as[·]?)).length ops.size with h' | h' | h'
    · have := hits _ h'
      rw [List.getElem?_eq_none (Nat.le_refl _)] at this; cases this
    · exact h'
    · have := List.length_filterMap_le (as[·]?) ord
      omega
  have hp' : ∀ p q, p < ops.size → q < ops.size → ∃ o, ops[ord.getD q 0]? = some o ∧ pairOk an (ord.filterMap (as[·]?)) p q (ord.getD p 0) (ord.getD q 0) (A p) (A q) (anyOn o) = true := fun p q hp hq => by
    obtain ⟨a, b, o, ha, hb, ho, hk⟩ := hpair p q hp hq
    rw [has p hp] at ha; rw [has q hq] at hb
    cases ha; cases hb
    exact ⟨o, ho, hk⟩
  refine ⟨ix, A, fun p q => relA an (ix p) (ix q), h1, hix, has, fun p hp => (hin p hp).1, fun p q hp hq e => ?_, hsur, fun _ _ => rfl, fun p q hp hq hr => ?_, fun p q o hp hq hr ho => ?_, fun p q o hp hq ho hm => ?_, hon, fun p q hp hq hne r1 r2 => ?_, fun p q hp hq hne r1 r2 he => ?_, fun p q hp hq hlt r1 hl he => ?_⟩
  · have := (hin p hp).2
    rw [show ord.getD p 0 = ord.getD q 0 from e, (hin q hq).2] at this
    exact this.symm
  · obtain ⟨o, ho, hk⟩ := hp' p q hp hq
    simp only [pairOk, Bool.and_eq_true] at hk
    rw [if_pos hr] at hk
    simp only [Bool.and_eq_true, decide_eq_true_eq] at hk
    exact hk.1.1.1
  · obtain ⟨o', ho', hk⟩ := hp' p q hp hq
    rw [show ops[ord.getD q 0]? = some o from ho] at ho'; cases ho'
    simp only [pairOk, Bool.and_eq_true] at hk
    rw [if_pos hr] at hk
    simp only [Bool.and_eq_true, Bool.or_eq_true, List.contains_iff_mem, List.any_eq_true] at hk
    exact hk.1.1.2
  · obtain ⟨o', ho', hk⟩ := hp' p q hp hq
    rw [show ops[ord.getD q 0]? = some o from ho] at ho'; cases ho'
    simp only [pairOk, Bool.and_eq_true] at hk
    have hk := hk.1.1
    split at hk
    · rename_i hr; exact hr
    · have : (anyOn o).contains (ord.getD p 0) = true := List.contains_iff_mem.2 hm
      rw [this] at hk; cases hk
  · obtain ⟨o', ho', hk⟩ := hp' p q hp hq
    simp only [pairOk, Bool.and_eq_true, Bool.or_eq_true, Bool.not_eq_true', beq_iff_eq] at hk
    rcases hk.1.2 with ((h' | h') | h') | h'
    · exact absurd h' hne
    · rw [show relA an (ord.getD p 0) (ord.getD q 0) = false from r1] at h'; cases h'
    · rw [show relA an (ord.getD q 0) (ord.getD p 0) = false from r2] at h'; cases h'
    · exact h'.1
  · obtain ⟨o', ho', hk⟩ := hp' p q hp hq
    simp only [pairOk, Bool.and_eq_true, Bool.or_eq_true, Bool.not_eq_true', beq_iff_eq, decide_eq_true_eq] at hk
    rcases hk.1.2 with ((h' | h') | h') | h'
    · exact absurd h' hne
    · rw [show relA an (ord.getD p 0) (ord.getD q 0) = false from r1] at h'; cases h'
    · rw [show relA an (ord.getD q 0) (ord.getD p 0) = false from r2] at h'; cases h'
    · rcases h'.2 with h'' | h''
      · rw [he] at h''; cases h''
      · exact h''
  · obtain ⟨o', ho', hk⟩ := hp' p q hp hq
    simp only [pairOk, Bool.and_eq_true, Bool.or_eq_true, Bool.not_eq_true', Bool.and_eq_false_iff] at hk
    rcases hk.2 with (h' | h') | h'
    · rcases h' with (h' | h') | h'
      · rw [hl] at h'; cases h'
      · rw [he] at h'; cases h'
      · simp at h'; omega
    · rw [show relA an (ord.getD p 0) (ord.getD q 0) = false from r1] at h'; cases h'
    · simp only [loadClean, Bool.and_eq_true, List.all_eq_true, List.mem_range] at h'
      obtain ⟨k1, k2⟩ := h'
      obtain ⟨d, hd⟩ := Option.isSome_iff_exists.1 k1
      refine ⟨d, hd, fun r hr => ?_⟩
      have := k2 r (by omega)
      rw [hits r hr] at this
      simp only [Bool.and_eq_true, Bool.or_eq_true, Bool.not_eq_true', decide_eq_false_iff_not] at this
      exact ⟨fun hpr => this.1.resolve_left (by omega), fun hpr => this.2.resolve_left (by omega)⟩

end Den
