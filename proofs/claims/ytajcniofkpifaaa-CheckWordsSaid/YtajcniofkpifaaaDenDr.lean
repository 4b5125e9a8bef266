/- Regions whose order is drawn: each step, and the whole. -/
import Derived.Test.YtajcniofkpifaaaDenZ
set_option linter.unusedSectionVars false
set_option linter.unusedVariables false
set_option linter.unusedSimpArgs false
namespace Den
open Go
variable [GTab]

section
variable {P : Program} {cfg : Cfg} {call : FuncId → List AV → List ABlk → List (List ABlk) → Ans} {fc : FC} {ops : Array Oper} {as : List AOp} {an ord : List Nat} {n : Nat}
    {ix : Nat → Nat} {A : Nat → AOp} {R : Nat → Nat → Bool} {c : Nat → St} {val : Nat → AV} {g0 : Gh} {w0 : World} {D : Nat → Bool} {K : Nat} {g : Gh} {a : Act} {w : World}

theorem InvK.closed' (I : InvK A R n c val g0 w0 D K g a w) {p : Nat} (hanc : ∀ q, q < n → R q p = true → D q = true) :
    ∀ q r, q < n → r < n → (fun q => q == p || D q) r = true → R q r = true → (fun q => q == p || D q) q = true := by
  intro q r hq hr h1 h2
  simp only [Bool.or_eq_true, beq_iff_eq] at h1 ⊢
  rcases h1 with rfl | h1
  · exact .inr (hanc q hq h2)
  · exact .inr (I.closed q r hq hr h1 h2)

/-- What the operation looks at is what it would have looked at in its place. -/
theorem Tr.agree (T : Tr P cfg call fc ops as an ord n ix A R c val) (I : InvK A R n c val g0 w0 D K g a w) {p : Nat} (hp : p < n) (h0 : D p = false) (hanc : ∀ q, q < n → R q p = true → D q = true)
    (s : Nat) (hs : s ∈ (A p).looks) : (envE A val c D n).getD s .undef = (c p).env.getD s .undef := by
  rw [T.env p (by omega)]
  refine env_at (by omega) fun q hq hd => ?_
  by_cases e : q = p
  · subst e; simp [h0]
  · cases r1 : R q p with
    | true => exact ⟨fun _ => T.dr.hR q p hq hp r1, fun _ => hanc q hq r1⟩
    | false =>
      cases r2 : R p q with
      | true =>
        have := T.dr.hR p q hp hq r2
        refine ⟨fun h => ?_, fun h => by omega⟩
        rw [I.closed p q hp hq h r2] at h0; cases h0
      | false => exact absurd hd (not_dstIn (T.dr.hC q p hq hp e r1 r2).1 hs)

theorem Tr.putE (T : Tr P cfg call fc ops as an ord n ix A R c val) (I : InvK A R n c val g0 w0 D K g a w) {p : Nat} (hp : p < n) (h0 : D p = false) (s : Nat) :
    (envE A val c (fun q => q == p || D q) n).getD s .undef = (setO (envE A val c D n) (A p).dst (val p)).getD s .undef := by
  refine envD_put hp rfl h0 (fun q d hq hne hd1 hd2 hD => ?_) s
  cases r1 : R q p with
  | true => exact T.dr.hR q p hq hp r1
  | false =>
    cases r2 : R p q with
    | true => rw [I.closed p q hp hq hD r2] at h0; cases h0
    | false =>
      have := (T.dr.hC p q hp hq (fun e => hne e.symm) r2 r1).2
      simp [sameDst, hd1, hd2] at this

theorem Tr.envR (T : Tr P cfg call fc ops as an ord n ix A R c val) (I : InvK A R n c val g0 w0 D K g a w) {p : Nat} (hp : p < n) (h0 : D p = false) {g' : Gh} {O' S' w' lim} {x : Value}
    (he : EnvR g' O' S' w' lim (envE A val c D n) a.tmps) (hv : VR g' O' S' w' lim (val p) x) : EnvR g' O' S' w' lim (envE A val c (fun q => q == p || D q) n) (a.put (A p).dst x).tmps := by
  have h1 : EnvR g' O' S' w' lim (setO (envE A val c D n) (A p).dst (val p)) (a.put (A p).dst x).tmps := by
    cases hd : (A p).dst with
    | none => exact he
    | some d => exact he.set d hv
  refine ⟨⟨?_, h1.1.2⟩, fun i => ?_⟩
  · rw [h1.1.1, setO_length, envD_length, envD_length]
  · rw [T.putE I hp h0 i]; exact h1.2 i

theorem put_defers {a : Act} {d : Option Nat} {x : Value} : (a.put d x).defers = a.defers := by cases d <;> rfl

/-- What is no effect is done before the next effect, if it is done now. -/
theorem Tr.before (T : Tr P cfg call fc ops as an ord n ix A R c val) (I : InvK A R n c val g0 w0 D K g a w) {p : Nat} (hp : p < n) (he : (A p).op.isEff = false) (hanc : ∀ q, q < n → R q p = true → D q = true) : p < K := by
  rcases Nat.lt_or_ge p K with h | h
  · exact h
  · exfalso
    have hK : K < n := by omega
    have hek := I.eff hK
    have hne : p ≠ K := by rintro rfl; rw [he] at hek; cases hek
    cases r1 : R p K with
    | true => have := T.dr.hR p K hp hK r1; omega
    | false =>
      cases r2 : R K p with
      | true => have := (I.done K hK hek).1 (hanc K hK r2); omega
      | false => have := (T.dr.hD p K hp hK hne r1 r2 hek).2; omega

theorem Tr.isNext (T : Tr P cfg call fc ops as an ord n ix A R c val) (I : InvK A R n c val g0 w0 D K g a w) {p : Nat} (hp : p < n) (h0 : D p = false) (he : (A p).op.isEff = true) (hanc : ∀ q, q < n → R q p = true → D q = true) : p = K := by
  rcases Nat.lt_trichotomy p K with h | h | h
  · rw [(I.done p hp he).2 h] at h0; cases h0
  · exact h
  · exfalso
    have hK : K < n := by omega
    have hek := I.eff hK
    cases r1 : R K p with
    | true => have := (I.done K hK hek).1 (hanc K hK r1); omega
    | false =>
      cases r2 : R p K with
      | true => have := T.dr.hR p K hp hK r2; omega
      | false => have := (T.dr.hD K p hK hp (by omega) r1 r2 he).1; rw [hek] at this; cases this

/-- After what is no effect. -/
theorem Tr.finNon (T : Tr P cfg call fc ops as an ord n ix A R c val) (I : InvK A R n c val g0 w0 D K g a w) {p : Nat} (hp : p < n) (h0 : D p = false) (he : (A p).op.isEff = false) (hanc : ∀ q, q < n → R q p = true → D q = true)
    {g' : Gh} {w' : World} {x : Value} (X : Nat → Nat → Prop) (hX : ∀ d k, X d k → gm (c p).O (c p).S d k = none ∧ (gm (c (p + 1)).O (c (p + 1)).S d k).isSome = true)
    (hs : Sim g' (c K).O (c K).S w') (hm : Mon g (c K).O (c K).S w g' (c K).O (c K).S w') (hun : ∀ d k, g.ρ d k = .un → (gm (c K).O (c K).S d k).isSome = true → ¬ X d k → g'.ρ d k = .un)
    (hv : VR g' (c K).O (c K).S w' ((c K).S.length + 1) (val p) x) : InvK A R n c val g0 w0 (fun q => q == p || D q) K g' (a.put (A p).dst x) w' := by
  have hpK := T.before I hp he hanc
  refine ⟨I.closed' hanc, I.le, I.eff, fun q hq hqe => ?_, I.ne, I.ex, ⟨hs, T.envR I hp h0 (I.str.env.mono hm) hv, by rw [put_defers]; exact I.str.defers, I.str.ne⟩, ⟨I.evo.mon.trans hm, I.evo.slen, fun d k b hu hb => ?_⟩, fun q hqK hqe hqD obj b hO hS => ?_⟩
  · have : q ≠ p := by rintro rfl; rw [he] at hqe; cases hqe
    simp [this]; exact I.done q hq hqe
  · obtain ⟨e1, e2⟩ := I.evo.un d k b hu hb
    refine ⟨e1, hun d k e2 (by rw [e1]; rfl) fun hx => ?_⟩
    have := I.ex 0 p (Nat.zero_le _) (by omega) d k (by rw [hb]; rfl)
    rw [(hX d k hx).1] at this; cases this
  · have hqD' : D q = false ∧ q ≠ p := by
      simp only [Bool.or_eq_false_iff, beq_eq_false_iff_ne] at hqD
      exact ⟨hqD.2, hqD.1⟩
    obtain ⟨e1, e2⟩ := I.un q hqK hqe hqD'.1 obj b hO hS
    refine ⟨hun _ _ e1 (by rw [e2]; rfl) fun hx => ?_, e2⟩
    obtain ⟨x1, x2⟩ := hX _ _ hx
    have hneq := I.ne q (by omega)
    rcases Nat.lt_or_ge q p with h | h
    · have : (gm (c (q + 1)).O (c (q + 1)).S (newD (c q).S obj) (newK (c q).O (c q).S obj)).isSome = true := by rw [hO, hS, new_none hneq]; rfl
      have := I.ex (q + 1) p (by omega) (by omega) _ _ this
      rw [x1] at this; cases this
    · have := I.ex (p + 1) q (by omega) (by omega) _ _ x2
      rw [gm_newSelf hneq] at this; cases this

/-- After an effect. -/
theorem Tr.finEff (T : Tr P cfg call fc ops as an ord n ix A R c val) (I : InvK A R n c val g0 w0 D K g a w) (hp : K < n) (h0 : D K = false) (hanc : ∀ q, q < n → R q K = true → D q = true)
    {g' : Gh} {w' : World} {x : Value} (hs : Sim g' (c (K + 1)).O (c (K + 1)).S w') (hevo : Evo g (c K).O (c K).S w g' (c (K + 1)).O (c (K + 1)).S w')
    (hv : VR g' (c (K + 1)).O (c (K + 1)).S w' ((c K).S.length + 1) (val K) x) : ∃ K', InvK A R n c val g0 w0 (fun q => q == K || D q) K' g' (a.put (A K).dst x) w' := by
  have he := I.eff hp
  have hlen : (c (K + 1)).S.length = (c K).S.length := hevo.slen
  have hne1 : (c (K + 1)).S ≠ [] := fun h => I.ne K (Nat.le_refl _) (by rw [h] at hlen; exact List.length_eq_zero_iff.1 hlen.symm)
  obtain ⟨K', k1, k2, k3, k4⟩ := nextEff A (n - (K + 1)) (K + 1) n rfl (by omega)
  obtain ⟨s1, s2, s3, s4⟩ := T.grow hs hne1 K' k1 k2 k4
  refine ⟨K', I.closed' hanc, k2, k3, fun q hq hqe => ?_, fun m hm => ?_, fun m m' h1 h2 d k hsome => ?_, ⟨s1, ?_, by rw [put_defers]; exact I.str.defers, (s3 K' k1 (Nat.le_refl _)).1⟩, (I.evo.trans hevo).trans s2, fun q hqK hqe hqD obj b hO hS => ?_⟩
  · simp only [Bool.or_eq_true, beq_iff_eq]
    rw [I.done q hq hqe]
    constructor
    · intro h; omega
    · intro h
      rcases Nat.lt_or_ge K q with h' | h'
      · rw [k4 q (by omega) h] at hqe; cases hqe
      · omega
  · rcases Nat.lt_or_ge K m with h | h
    · exact (s3 m (by omega) hm).1
    · exact I.ne m h
  · have step2 : ∀ m', K + 1 ≤ m' → m' ≤ K' → ∀ q, K + 1 ≤ q → q ≤ m' → (gm (c q).O (c q).S d k).isSome = true → (gm (c m').O (c m').S d k).isSome = true := fun m' a1 a2 q b1 b2 hq =>
      ((T.grow hs hne1 m' a1 (by omega) fun r r1 r2 => k4 r r1 (by omega)).2.2.1 q b1 b2).2.ex hq
    rcases Nat.lt_or_ge K m' with h | h
    · rcases Nat.lt_or_ge K m with h' | h'
      · exact step2 m' (by omega) h2 m (by omega) h1 hsome
      · have e1 := I.ex m K h' (Nat.le_refl _) d k hsome
        obtain ⟨b, hb⟩ := Option.isSome_iff_exists.1 e1
        obtain ⟨b', hb', _⟩ := hevo.mon.blk d k b hb
        exact step2 m' (by omega) h2 (K + 1) (Nat.le_refl _) (by omega) (by rw [hb']; rfl)
    · exact I.ex m m' h1 h d k hsome
  · show EnvR g' (c K').O (c K').S w' ((c K').S.length + 1) (envE A val c (fun q => q == K || D q) n) (a.put (A K).dst x).tmps
    rw [show (c K').S.length = (c K).S.length from s2.slen.trans hlen]
    exact T.envR I hp h0 ((I.str.env.mono hevo.mon).mono s2.mon) (hv.mono s2.mon)
  · have hqD' : D q = false ∧ q ≠ K := by
      simp only [Bool.or_eq_false_iff, beq_eq_false_iff_ne] at hqD
      exact ⟨hqD.2, hqD.1⟩
    rcases Nat.lt_or_ge q K with h | h
    · obtain ⟨e1, e2⟩ := I.un q h hqe hqD'.1 obj b hO hS
      obtain ⟨e3, e4⟩ := hevo.un _ _ b e1 e2
      exact ⟨e4, (s3 (K + 1) (Nat.le_refl _) k1).2 _ _ _ e3⟩
    · have := hqD'.2
      exact s4 q (by omega) hqK obj b hO hS

theorem gm_lt {O : List ABlk} {S : List (List ABlk)} {d k : Nat} {b : ABlk} (h : gm O S d k = some b) : d < S.length + 1 := by
  cases d with
  | zero => omega
  | succ d =>
    simp only [gm] at h
    rcases Nat.lt_or_ge d S.length with h' | h'
    · omega
    · rw [List.getElem?_eq_none h'] at h; cases h

theorem Tr.step (T : Tr P cfg call fc ops as an ord n ix A R c val) (hcfg : CfgOk P cfg) (hcall : ∀ f args O S r O' S', call f args O S = some (r, O', S') → CallOk P f args O S r O' S')
    (I : InvK A R n c val g0 w0 D K g a w) {p : Nat} (hp : p < n) (h0 : D p = false) (hanc : ∀ q, q < n → R q p = true → D q = true) {Kont : Act → World → Prop} {Q : Exit → Act → World → Prop}
    (hk : ∀ K' g' a' w', InvK A R n c val g0 w0 (fun q => q == p || D q) K' g' a' w' → Kont a' w') : wpOp P ops Q (ix p) Kont a w := by
  obtain ⟨o, ho, hco⟩ := T.cop p hp
  obtain ⟨c1, c2, c3, c4⟩ := coper_spec hco
  obtain ⟨ap, a1, a2, a3, hstep, _⟩ := T.st p hp
  have hagree := T.agree I hp h0 hanc
  have hslots : ∀ s ∈ (A p).op.slots, (envE A val c D n).getD s .undef = (c p).env.getD s .undef := fun s hs => hagree s (by simp [AOp.looks, hs])
  have hwant : wanted (envE A val c D n) (A p).guard = wanted (c p).env (A p).guard := wanted_dep fun s b hg => hagree s (by simp [AOp.looks, hg])
  simp only [wpOp, ho]
  rcases hstep with ⟨hw, hv, hc'⟩ | ⟨hw, O', S', hx, _, hc'⟩
  · rw [a2, ← hwant] at hw
    rw [wanted_D (ops := ops) (o := o) I.str.env c4 hw, if_neg (by simp), ← c2]
    have hvr : VR g (c K).O (c K).S w ((c K).S.length + 1) (val p) undef := by
      rw [hv]; exact .tup (fun _ => undef) rfl (fun i hi => by simp at hi) (fun i a ha => by simp at ha)
    cases he : (A p).op.isEff with
    | false => exact hk _ _ _ _ (T.finNon I hp h0 he hanc (fun _ _ => False) (fun _ _ h => h.elim) I.str.sim (.refl ..) (fun _ _ h _ _ => h) hvr)
    | true =>
      obtain rfl := T.isNext I hp h0 he hanc
      have e1 : (c (p + 1)).O = (c p).O := by rw [hc', put_O]
      have e2 : (c (p + 1)).S = (c p).S := by rw [hc', put_S]
      obtain ⟨K', hK'⟩ := T.finEff I hp h0 hanc (g' := g) (w' := w) (x := undef) (by rw [e1, e2]; exact I.str.sim) (by rw [e1, e2]; exact .refl ..) (by rw [e1, e2]; exact hvr)
      exact hk _ _ _ _ hK'
  · rw [a2, ← hwant] at hw
    rw [wanted_D (ops := ops) (o := o) I.str.env c4 hw, if_pos rfl]
    rw [a3] at hx
    have e1 : (c (p + 1)).O = O' := by rw [hc', put_O]
    have e2 : (c (p + 1)).S = S' := by rw [hc', put_S]
    have hx' : opx cfg call { env := envE A val c D n, O := (c p).O, S := (c p).S } (A p).op = some (val p, O', S') := by
      rw [opx_dep _ hslots]; exact hx
    cases he : (A p).op.isEff with
    | true =>
      obtain rfl := T.isNext I hp h0 he hanc
      refine .inl (opx_wp hcfg hcall c1 hx' I.str fun g' x w' h1 h2 h3 => ?_)
      rw [← c2]
      obtain ⟨K', hK'⟩ := T.finEff I hp h0 hanc (g' := g') (w' := w') (x := x) (by rw [e1, e2]; exact h1) (by rw [e1, e2]; exact h2) (by rw [e1, e2]; exact h3)
      exact hk _ _ _ _ hK'
    | false =>
      obtain ⟨hnc, hkind⟩ := cls_noneff he
      have hpK := T.before I hp he hanc
      have hxa : aop { env := envE A val c D n, O := (c p).O, S := (c p).S } (A p).op = some (val p, O', S') := by
        unfold opx at hx'; rw [if_neg (by simp [hnc])] at hx'; exact hx'
      rcases hkind with hst | hnew
      · -- it leaves the memory as it is
        have hxK : aop { env := envE A val c D n, O := (c K).O, S := (c K).S } (A p).op = some (val p, (c K).O, (c K).S) := by
          cases hl : (A p).op.isLoad with
          | false => exact still_any hst hl hxa _ _
          | true =>
            obtain ⟨rfl, rfl⟩ := load_same hl hxa
            rw [aop_dep _ (opds_slots hslots)] at hxa ⊢
            refine T.load hp hl hxa I.le I.ne (fun q h1 h2 hqe => ?_) K (by omega) (Nat.le_refl _)
            have hqn : q < n := by have := I.le; omega
            cases hr : R p q with
            | false => rfl
            | true =>
              rw [I.closed p q hp hqn ((I.done q hqn hqe).2 h2) hr] at h0; cases h0
        have hxo : opx cfg call { env := envE A val c D n, O := (c K).O, S := (c K).S } (A p).op = some (val p, (c K).O, (c K).S) := by
          unfold opx; rw [if_neg (by simp [hnc])]; exact hxK
        refine .inl (opx_wp hcfg hcall c1 hxo I.str fun g' x w' h1 h2 h3 => ?_)
        rw [← c2]
        refine hk _ _ _ _ (T.finNon I hp h0 he hanc (fun _ _ => False) (fun _ _ h => h.elim) h1 h2.mon (fun d k hu hsome _ => ?_) h3)
        obtain ⟨b, hb⟩ := Option.isSome_iff_exists.1 hsome
        exact (h2.un d k b hu hb).2
      · rcases new_sound c1 hnew hxa I.str.sim I.str.env with ⟨obj, b, xo, mk, r1, r2, _, r3, r4, r5⟩ | ⟨r1, r2, xo, nn, x, r3, r4⟩
        · simp only at r1 r2 r4 r5
          have hne := I.ne p (by omega)
          obtain ⟨u1, u2⟩ := I.un p hpK he h0 obj b (by rw [e1, r1]) (by rw [e2, r2])
          have hsim := I.str.sim.realize u1 u2 r4
          have hmon := Mon.realize I.str.sim u1 xo
          refine .inl ?_
          unfold Oper.wp
          rw [r3, Oper.upon_value, ← c2]
          refine hk _ _ _ _ (T.finNon I hp h0 he hanc (fun d k => d = newD (c p).S obj ∧ k = newK (c p).O (c p).S obj) (fun d k hx => ?_) hsim hmon (fun d k hu _ hn => ?_) ?_)
          · obtain ⟨rfl, rfl⟩ := hx
            exact ⟨gm_newSelf hne, by rw [e1, e2, r1, r2, new_none hne]; rfl⟩
          · simp only [Gh.addAt]
            rw [if_neg hn]; exact hu
          · exact r5 _ _ _ _ w.heap.size _ hsim (gm_lt u2) (by simp [Gh.addAt]) u2
        · simp only at r1 r2 r4
          refine .inl ?_
          unfold Oper.wp
          rw [r3, Oper.upon_value, ← c2]
          exact hk _ _ _ _ (T.finNon I hp h0 he hanc (fun _ _ => False) (fun _ _ h => h.elim) (I.str.sim.push_imm xo nn) (Mon.push_imm I.str.sim xo nn) (fun _ _ h _ _ => h) (r4.lim (Nat.zero_le _)))

end
end Den
