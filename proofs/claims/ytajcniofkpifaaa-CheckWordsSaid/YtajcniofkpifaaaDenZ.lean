/- Regions whose order is drawn: the run. -/
import Derived.Test.YtajcniofkpifaaaDenX
set_option linter.unusedSectionVars false
set_option linter.unusedVariables false
set_option linter.unusedSimpArgs false
namespace Den
open Go
variable [GTab]

structure Tr (P : Program) (cfg : Cfg) (call : FuncId → List AV → List ABlk → List (List ABlk) → Ans) (fc : FC) (ops : Array Oper) (as : List AOp) (an ord : List Nat) (n : Nat)
    (ix : Nat → Nat) (A : Nat → AOp) (R : Nat → Nat → Bool) (c : Nat → St) (val : Nat → AV) : Prop where
  dr : DrF ops as an ord n ix A R
  nops : n = ops.size
  cop : ∀ p, p < n → ∃ o, ops[ix p]? = some o ∧ coper P fc ops o = some (A p)
  st : ∀ p, p < n → ∃ a : AOp, a.dst = (A p).dst ∧ a.guard = (A p).guard ∧ a.op = (A p).op ∧ TStep cfg call a (c p) (val p) (c (p + 1)) ∧
    ((A p).op.isEff = true → ∀ q, q < p → R q p = false → (A q).op.isLoad = true → ∀ d, (A q).dst = some d → (d, (A q).op) ∈ a.chk)

theorem load_noneff {o : AO} (h : o.isLoad = true) : o.isEff = false ∧ o.still = true ∧ o.isCall = false := by
  cases o <;> simp_all [AO.isLoad, AO.isEff, AO.still, AO.isCall]

theorem not_dstIn {a : AOp} {l : List Nat} {s : Nat} (h : dstIn a l = false) (hs : s ∈ l) : a.dst ≠ some s := fun e => by
  simp only [dstIn, e] at h
  rw [List.contains_iff_mem.2 hs] at h; cases h

theorem not_sameDst {a b : AOp} {s : Nat} (h : sameDst a b = false) (hs : b.dst = some s) : a.dst ≠ some s := fun e => by
  simp [sameDst, e, hs] at h

section
variable {P : Program} {cfg : Cfg} {call : FuncId → List AV → List ABlk → List (List ABlk) → Ans} {fc : FC} {ops : Array Oper} {as : List AOp} {an ord : List Nat} {n : Nat}
    {ix : Nat → Nat} {A : Nat → AOp} {R : Nat → Nat → Bool} {c : Nat → St} {val : Nat → AV}

abbrev envE (A : Nat → AOp) (val : Nat → AV) (c : Nat → St) (D : Nat → Bool) (p : Nat) : List AV := envD (fun p => (A p).dst) val (c 0).env D p

theorem Tr.env (T : Tr P cfg call fc ops as an ord n ix A R c val) : ∀ p, p ≤ n → (c p).env = envE A val c (fun _ => true) p
  | 0, _ => rfl
  | p + 1, hp => by
    obtain ⟨a, h1, h2, h3, h4, _⟩ := T.st p (by omega)
    rw [h4.env, h1, T.env p (by omega)]
    simp [envE, envD]

theorem Tr.mem (T : Tr P cfg call fc ops as an ord n ix A R c val) {p : Nat} (hp : p < n) (he : (A p).op.isEff = false) :
    ((c (p + 1)).O = (c p).O ∧ (c (p + 1)).S = (c p).S) ∨ ∃ obj b, (c (p + 1)).O = newO (c p).O obj b ∧ (c (p + 1)).S = newS (c p).S obj b := by
  obtain ⟨a, h1, h2, h3, h4, _⟩ := T.st p hp
  exact h4.mem (by rw [h3]; exact he)

/-- A load that comes late answers what it would have answered in its place. -/
theorem Tr.load (T : Tr P cfg call fc ops as an ord n ix A R c val) {p K : Nat} (hp : p < n) (hl : (A p).op.isLoad = true)
    (hx : aop { env := (c p).env, O := (c p).O, S := (c p).S } (A p).op = some (val p, (c p).O, (c p).S)) (hK : K ≤ n) (hne : ∀ m, m ≤ K → (c m).S ≠ [])
    (hbet : ∀ q, p < q → q < K → (A q).op.isEff = true → R p q = false) :
    ∀ m, p ≤ m → m ≤ K → aop { env := (c p).env, O := (c m).O, S := (c m).S } (A p).op = some (val p, (c m).O, (c m).S) := by
  intro m
  induction m with
  | zero => intro h1 h2; have : p = 0 := by omega
            subst this; exact hx
  | succ m ih =>
    intro h1 h2
    by_cases e : p = m + 1
    · subst e; exact hx
    · have ih := ih (by omega) (by omega)
      cases he : (A m).op.isEff with
      | false =>
        rcases T.mem (show m < n by omega) he with ⟨e1, e2⟩ | ⟨obj, b, e1, e2⟩
        · rw [e1, e2]; exact ih
        · rw [e1, e2]
          exact load_more hl ih (More.new (hne m (by omega)) obj b)
      | true =>
        have hpm : p < m := by
          rcases Nat.lt_or_ge p m with h | h
          · exact h
          · have : p = m := by omega
            subst this
            rw [(load_noneff hl).1] at he; cases he
        have hr := hbet m hpm (by omega) he
        obtain ⟨d, hd, hclean⟩ := T.dr.hL p m hp (by omega) hpm hr hl he
        obtain ⟨a, g1, g2, g3, g4, g5⟩ := T.st m (by omega)
        rcases g4 with ⟨_, _, e3⟩ | ⟨_, O', S', hx', hc, e3⟩
        · rw [e3, put_O, put_S]; exact ih
        · have hmem := g5 he p hpm hr hl d hd
          simp only [chks, List.all_eq_true] at hc
          have hc1 := hc _ hmem
          simp only [Bool.and_eq_true, decide_eq_true_eq] at hc1
          obtain ⟨hdl, hc2⟩ := hc1
          have hagree : ∀ s ∈ (A p).op.slots, (c m).env.getD s .undef = (c p).env.getD s .undef := fun s hs => by
            rw [T.env m (by omega), T.env p (by omega)]
            refine envD_skip m (by omega) fun q q1 q2 hq => ?_
            exact absurd hq (not_dstIn ((hclean q (by omega)).1 q1) (by simp [AOp.looks, hs]))
          have hval : (c m).env.getD d .undef = val p := by
            have hlen : d < (c 0).env.length := by
              rw [T.env m (by omega), envD_length] at hdl; exact hdl
            rw [T.env m (by omega)]
            unfold envE
            rw [envD_skip (p := p + 1) m (by omega) fun q q1 q2 hq => absurd hq (not_sameDst ((hclean q (by omega)).2 (by omega)) hd)]
            simp only [envD, if_true]
            rw [setO_getD, envD_length]
            rw [if_pos ⟨hd, hlen⟩]
          rw [e3, put_O, put_S]
          have hdep : aop { env := (c p).env, O := O', S := S' } (A p).op = aop { env := (c m).env, O := O', S := S' } (A p).op :=
            aop_dep _ (opds_slots fun s hs => (hagree s hs).symm)
          simp only
          rw [hdep]
          split at hc2
          · rename_i v O2 S2 hv
            have hv' : aop { env := (c m).env, O := O', S := S' } (A p).op = some (v, O2, S2) := hv
            obtain ⟨rfl, rfl⟩ := load_same hl hv'
            rw [hv', AV.beq_eq _ _ hc2, hval]
          · cases hc2

/-- What a new block's memory is like: nothing stood there. -/
theorem new_none {O : List ABlk} {S : List (List ABlk)} (hS : S ≠ []) {obj : Bool} {b : ABlk} : gm (newO O obj b) (newS S obj b) (newD S obj) (newK O S obj) = some b := by
  rw [gm_new hS]; simp

/-- Over steps that are no effects. -/
theorem Tr.grow (T : Tr P cfg call fc ops as an ord n ix A R c val) {g : Gh} {w : World} {m : Nat} (hs : Sim g (c m).O (c m).S w) (hne : (c m).S ≠ []) :
    ∀ m', m ≤ m' → m' ≤ n → (∀ q, m ≤ q → q < m' → (A q).op.isEff = false) →
      Sim g (c m').O (c m').S w ∧ Evo g (c m).O (c m).S w g (c m').O (c m').S w ∧ (∀ q, m ≤ q → q ≤ m' → (c q).S ≠ [] ∧ More (c q).O (c q).S (c m').O (c m').S) ∧
      ∀ p, m ≤ p → p < m' → ∀ obj b, (c (p + 1)).O = newO (c p).O obj b → (c (p + 1)).S = newS (c p).S obj b →
        g.ρ (newD (c p).S obj) (newK (c p).O (c p).S obj) = .un ∧ gm (c m').O (c m').S (newD (c p).S obj) (newK (c p).O (c p).S obj) = some b := by
  intro m'
  induction m' with
  | zero =>
    intro h1 h2 h3
    have : m = 0 := by omega
    subst this
    exact ⟨hs, .refl .., fun q q1 q2 => by have : q = 0 := by omega
                                           subst this; exact ⟨hne, fun _ _ _ h => h⟩, fun p p1 p2 => by omega⟩
  | succ m' ih =>
    intro h1 h2 h3
    by_cases e : m = m' + 1
    · subst e
      exact ⟨hs, .refl .., fun q q1 q2 => by have : q = m' + 1 := by omega
                                             subst this; exact ⟨hne, fun _ _ _ h => h⟩, fun p p1 p2 => by omega⟩
    · obtain ⟨i1, i2, i3, i4⟩ := ih (by omega) (by omega) fun q q1 q2 => h3 q q1 (by omega)
      have hne' := (i3 m' (by omega) (Nat.le_refl _)).1
      have hstep : Sim g (c (m' + 1)).O (c (m' + 1)).S w ∧ Evo g (c m').O (c m').S w g (c (m' + 1)).O (c (m' + 1)).S w ∧ (c (m' + 1)).S ≠ [] ∧ More (c m').O (c m').S (c (m' + 1)).O (c (m' + 1)).S := by
        rcases T.mem (show m' < n by omega) (h3 m' (by omega) (by omega)) with ⟨e1, e2⟩ | ⟨obj, b, e1, e2⟩
        · rw [e1, e2]; exact ⟨i1, .refl .., hne', fun _ _ _ h => h⟩
        · rw [e1, e2]
          refine ⟨i1.grow hne' obj b, .grow hne' obj b, fun h0 => hne' ?_, More.new hne' obj b⟩
          have := newS_length (S := (c m').S) (obj := obj) (b := b)
          rw [h0] at this
          exact List.length_eq_zero_iff.1 this.symm
      obtain ⟨s1, s2, s3, s4⟩ := hstep
      refine ⟨s1, i2.trans s2, fun q q1 q2 => ?_, fun p p1 p2 obj b hO hS => ?_⟩
      · by_cases e' : q = m' + 1
        · subst e'; exact ⟨s3, fun _ _ _ h => h⟩
        · obtain ⟨j1, j2⟩ := i3 q q1 (by omega)
          exact ⟨j1, fun d k b h => s4 d k b (j2 d k b h)⟩
      · by_cases e' : p = m'
        · subst e'
          have h0 := gm_newSelf (O := (c p).O) hne' (obj := obj)
          exact ⟨i1.isSome_of h0, by rw [hO, hS]; exact new_none hne'⟩
        · obtain ⟨j1, j2⟩ := i4 p p1 (by omega) obj b hO hS
          exact ⟨j1, s4 _ _ _ j2⟩

theorem nextEff (A : Nat → AOp) : ∀ (k m n : Nat), n - m = k → m ≤ n → ∃ K, m ≤ K ∧ K ≤ n ∧ (K < n → (A K).op.isEff = true) ∧ ∀ q, m ≤ q → q < K → (A q).op.isEff = false
  | 0, m, n, h, hm => ⟨m, Nat.le_refl _, hm, fun h' => by omega, fun q q1 q2 => by omega⟩
  | k + 1, m, n, h, hm => by
    cases he : (A m).op.isEff with
    | true => exact ⟨m, Nat.le_refl _, hm, fun _ => he, fun q q1 q2 => by omega⟩
    | false =>
      obtain ⟨K, k1, k2, k3, k4⟩ := nextEff A k (m + 1) n (by omega) (by omega)
      refine ⟨K, by omega, k2, k3, fun q q1 q2 => ?_⟩
      by_cases e : q = m
      · subst e; exact he
      · exact k4 q (by omega) q2

/-- What holds while a region is carried out: D, what is done; K: the next effect. -/
structure InvK (A : Nat → AOp) (R : Nat → Nat → Bool) (n : Nat) (c : Nat → St) (val : Nat → AV) (g0 : Gh) (w0 : World) (D : Nat → Bool) (K : Nat) (g : Gh) (a : Act) (w : World) : Prop where
  closed : ∀ p q, p < n → q < n → D q = true → R p q = true → D p = true
  le : K ≤ n
  eff : K < n → (A K).op.isEff = true
  done : ∀ q, q < n → (A q).op.isEff = true → (D q = true ↔ q < K)
  ne : ∀ m, m ≤ K → (c m).S ≠ []
  ex : ∀ m m', m ≤ m' → m' ≤ K → ∀ d k, (gm (c m).O (c m).S d k).isSome = true → (gm (c m').O (c m').S d k).isSome = true
  str : StR g { env := envE A val c D n, O := (c K).O, S := (c K).S } a w
  evo : Evo g0 (c 0).O (c 0).S w0 g (c K).O (c K).S w
  un : ∀ p, p < K → (A p).op.isEff = false → D p = false → ∀ obj b, (c (p + 1)).O = newO (c p).O obj b → (c (p + 1)).S = newS (c p).S obj b →
    g.ρ (newD (c p).S obj) (newK (c p).O (c p).S obj) = .un ∧ gm (c K).O (c K).S (newD (c p).S obj) (newK (c p).O (c p).S obj) = some b

theorem More.ex {O O2 : List ABlk} {S S2 : List (List ABlk)} (h : More O S O2 S2) {d k : Nat} (hs : (gm O S d k).isSome = true) : (gm O2 S2 d k).isSome = true := by
  obtain ⟨b, hb⟩ := Option.isSome_iff_exists.1 hs
  rw [h d k b hb]; rfl

theorem Tr.init (T : Tr P cfg call fc ops as an ord n ix A R c val) {g : Gh} {w : World} {a : Act} (hr : StR g (c 0) a w) :
    ∃ K, InvK A R n c val g w (fun _ => false) K g a w := by
  obtain ⟨K, k1, k2, k3, k4⟩ := nextEff A (n - 0) 0 n rfl (Nat.zero_le _)
  obtain ⟨s1, s2, s3, s4⟩ := T.grow hr.sim hr.ne K (Nat.zero_le _) k2 fun q _ q2 => k4 q (Nat.zero_le _) q2
  refine ⟨K, (fun p q _ _ h => by cases h), k2, k3, fun q hq he => ⟨(fun h => by cases h), fun h => ?_⟩, fun m hm => (s3 m (Nat.zero_le _) hm).1, fun m m' h1 h2 d k hs => ?_, ⟨s1, ?_, hr.defers, (s3 K (Nat.zero_le _) (Nat.le_refl _)).1⟩, s2,
    fun p p1 _ _ => s4 p (Nat.zero_le _) p1⟩
  · rw [k4 q (Nat.zero_le _) h] at he; cases he
  · obtain ⟨t1, t2, t3, t4⟩ := T.grow hr.sim hr.ne m' (Nat.zero_le _) (by omega) fun q _ q2 => k4 q (Nat.zero_le _) (by omega)
    exact (t3 m (Nat.zero_le _) h1).2.ex hs
  · show EnvR g (c K).O (c K).S w ((c K).S.length + 1) (envE A val c (fun _ => false) n) a.tmps
    unfold envE
    rw [envD_none (fun _ => rfl)]
    rw [show (c K).S.length = (c 0).S.length from s2.slen]
    exact hr.env.mono s2.mon

end
end Den
