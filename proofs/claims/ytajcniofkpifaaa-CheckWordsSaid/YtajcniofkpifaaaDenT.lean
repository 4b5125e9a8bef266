/- The run of a function's body. -/
import Derived.Test.YtajcniofkpifaaaDenY
import Derived.LoopN
import Derived.Scope
set_option linter.unusedSectionVars false
set_option linter.unusedVariables false
set_option linter.unusedSimpArgs false
namespace Den
open Go
variable [GTab]

def Ex.to : Ex → Exit
  | .normal => .normal
  | .exit id => .exit id
  | .ret => .ret

theorem copers_spec {P : Program} {fc : FC} {ops : Array Oper} : ∀ {os : List Oper} {l : List AOp}, copers P fc ops os = some l →
    l.length = os.length ∧ ∀ (j : Nat) (ap : AOp), l[j]? = some ap → ∃ o, os[j]? = some o ∧ coper P fc ops o = some ap := by
  intro os
  induction os with
  | nil => intro l h; simp [copers] at h; subst h; simp
  | cons o os ih =>
    intro l h
    simp only [copers] at h
    split at h
    · rename_i a l' ha hl
      cases h
      obtain ⟨h1, h2⟩ := ih hl
      refine ⟨by simp [h1], fun j ap hj => ?_⟩
      cases j with
      | zero => simp at hj; subst hj; exact ⟨o, rfl, ha⟩
      | succ j => exact h2 j ap (by simpa using hj)
    · cases h

section
variable {P : Program} {cfg : Cfg} {g : Gh} {O : List ABlk} {S : List (List ABlk)} {w w' : World}

theorem StR.heap {st : St} {a : Act} (hr : StR g st a w) (h : w'.heap = w.heap) (ei : w'.os = w.os ∧ w'.output = w.output) : StR g st a w' :=
  ⟨hr.sim.heap h ei, hr.env.mono (Mon.heap h ei), hr.defers, hr.ne⟩

theorem keep_getD (live : List Nat) (env : List AV) (i : Nat) : (keep live env).getD i .undef = env.getD i .undef ∨ (keep live env).getD i .undef = .undef := by
  cases live with
  | nil => exact .inl rfl
  | cons l live =>
  simp only [keep, List.getD_eq_getElem?_getD, List.getElem?_map, List.getElem?_zipIdx]
  cases h : env[i]? with
  | none => simp
  | some v =>
    simp only [Option.map_some, Option.getD_some]
    split
    · exact .inl rfl
    · exact .inr rfl

theorem StR.keep {st : St} {a : Act} (hr : StR g st a w) (live : List Nat) : StR g { st with env := Den.keep live st.env } a w := by
  refine ⟨hr.sim, ⟨⟨by have := hr.env.1.1; cases live <;> simp [Den.keep, this], hr.env.1.2⟩, fun i => ?_⟩, hr.defers, hr.ne⟩
  rcases keep_getD live st.env i with h | h
  · simp only [h]; exact hr.env.2 i
  · simp only [h]; exact .undef

/-- A region whose order is drawn. -/
def DrawnOk (P : Program) (cfg : Cfg) (call : FuncId → List AV → List ABlk → List (List ABlk) → Ans) : Prop :=
  ∀ (fc : FC) (ops : Array Oper) (l : List AOp), cregion P fc ops true = some l →
    ∀ (st st' : St) (a : Act) (w : World) (g : Gh), execOps cfg call l st = some st' → StR g st a w →
      ∀ (Q : Exit → Act → World → Prop), (∀ g' a' w', StR g' st' a' w' → Evo g st.O st.S w g' st'.O st'.S w' → Q .normal a' w') →
        wpAny P .any ops Q ops.size (Array.replicate ops.size false) a w

theorem exec_sound (hcfg : CfgOk P cfg) {call : FuncId → List AV → List ABlk → List (List ABlk) → Ans}
    (hcall : ∀ f args O S r O' S', call f args O S = some (r, O', S') → CallOk P f args O S r O' S') (hd : DrawnOk P cfg call) {fc : FC} (N : Nat) :
    ∀ (c : Code) (ac : AC), compile P fc c = some ac → ∀ (e : Ex) (st st' : St) (a : Act) (w : World) (g : Gh) (Q : Exit → Act → World → Prop),
      exec cfg call N ac st = some (e, st') → StR g st a w →
        (∀ g' a' w', StR g' st' a' w' → Evo g st.O st.S w g' st'.O st'.S w' → Q e.to a' w') → c.wp P Q a w := by
  intro c
  induction c with
  | skip =>
    intro ac hc e st st' a w g Q hx hr hQ
    simp [compile] at hc; subst hc
    simp [exec] at hx; obtain ⟨rfl, rfl⟩ := hx
    exact wp_skip (hQ g a w hr (.refl ..))
  | scope x ih =>
    intro ac hc e st st' a w g Q hx hr hQ
    simp only [compile] at hc
    refine wp_scope_straight (ih ac hc e st st' a w g _ hx hr fun g' a1 w1 s1 e1 => ?_)
    have := hQ g' a1 w1 s1 e1
    cases e <;> exact this
  | label l =>
    intro ac hc e st st' a w g Q hx hr hQ
    simp [compile] at hc; subst hc
    simp [exec] at hx; obtain ⟨rfl, rfl⟩ := hx
    exact wp_label (hQ g a w hr (.refl ..))
  | exit id =>
    intro ac hc e st st' a w g Q hx hr hQ
    simp [compile] at hc; subst hc
    simp [exec] at hx; obtain ⟨rfl, rfl⟩ := hx
    exact wp_exit (hQ g a w hr (.refl ..))
  | ret =>
    intro ac hc e st st' a w g Q hx hr hQ
    simp [compile] at hc; subst hc
    simp [exec] at hx; obtain ⟨rfl, rfl⟩ := hx
    exact wp_ret (hQ g a w hr (.refl ..))
  | region id ops draw =>
    intro ac hc e st st' a w g Q hx hr hQ
    simp only [compile, Option.map_eq_some_iff] at hc
    obtain ⟨l, hl, rfl⟩ := hc
    simp only [exec, Option.map_eq_some_iff] at hx
    obtain ⟨st1, hx, h2⟩ := hx
    cases h2
    cases draw with
    | false =>
      refine wp_region ?_
      simp only [cregion] at hl
      split at hl
      · cases hl
      · rename_i as has
        simp at hl; subst hl
        obtain ⟨h1, h2⟩ := copers_spec has
        refine seq_ops hcfg hcall (fc := fc) _ as (by simp [h1]) (fun j i ap hj hap => ?_) st st' a w g hx hr hQ
        obtain ⟨o, ho1, ho2⟩ := h2 j ap hap
        have : i = j := by
          rw [List.getElem?_range (by rcases Nat.lt_or_ge j ops.size with h | h; exact h; rw [List.getElem?_eq_none (by simpa using h)] at hj; cases hj)] at hj
          cases hj; rfl
        subst this
        exact ⟨o, by simpa using ho1, ho2⟩
    | true =>
      refine wp_region_any hcfg.mixed ?_
      have hw : ({ w with drawn := w.drawn + 1 } : World).heap = w.heap := rfl
      exact hd fc ops l hl st st' a _ g hx (hr.heap hw ⟨rfl, rfl⟩) Q fun g' a' w' h1 h2 => hQ g' a' w' h1 ((Evo.heap hw ⟨rfl, rfl⟩).trans h2)
  | seq x y ihx ihy =>
    intro ac hc e st st' a w g Q hx hr hQ
    simp only [compile] at hc
    split at hc
    · rename_i a' b' ha hb
      cases hc
      simp only [exec] at hx
      refine wp_seq ?_
      split at hx
      · rename_i st1 h1
        exact ihx a' ha .normal st st1 a w g _ h1 hr fun g' a1 w1 s1 e1 => ihy b' hb e st1 st' a1 w1 g' Q hx s1 fun g2 a2 w2 s2 e2 => hQ g2 a2 w2 s2 (e1.trans e2)
      · rename_i hne
        refine ihx a' ha e st st' a w g _ hx hr fun g' a1 w1 s1 e1 => ?_
        have := hQ g' a1 w1 s1 e1
        cases e with
        | normal => exact absurd hx (hne st')
        | exit id => exact this
        | ret => exact this
    · cases hc
  | cond c x y ihx ihy =>
    intro ac hc e st st' a w g Q hx hr hQ
    simp only [compile] at hc
    split at hc
    · rename_i c' a' b' hc' ha hb
      cases hc
      simp only [exec] at hx
      have hv := ev_sound (defers := a.defers) hr.env hc'
      split at hx
      · rename_i t ht
        rw [ht] at hv
        generalize hz : Act.eval ⟨a.tmps, a.defers⟩ c = z at hv
        cases hv
        refine wp_cond (t := t) hz ?_
        cases t with
        | true => exact ihx a' ha e st st' a w g Q (by simpa using hx) hr hQ
        | false => exact ihy b' hb e st st' a w g Q (by simpa using hx) hr hQ
      · cases hx
    · cases hc
  | block id x ih =>
    intro ac hc e st st' a w g Q hx hr hQ
    simp only [compile, Option.map_eq_some_iff] at hc
    obtain ⟨a', ha, rfl⟩ := hc
    simp only [exec] at hx
    refine wp_block ?_
    split at hx
    · rename_i id' st1 h1
      by_cases hid : id' = id
      · rw [if_pos hid] at hx
        cases hx
        refine ih a' ha (.exit id') st st' a w g _ h1 hr fun g' a1 w1 s1 e1 => ?_
        simp only [Ex.to, Exit.inBlock, hid, if_true]
        exact hQ g' a1 w1 s1 e1
      · rw [if_neg hid] at hx
        cases hx
        refine ih a' ha (.exit id') st st' a w g _ h1 hr fun g' a1 w1 s1 e1 => ?_
        simp only [Ex.to, Exit.inBlock, hid, if_false]
        exact hQ g' a1 w1 s1 e1
    · rename_i hne
      refine ih a' ha e st st' a w g _ hx hr fun g' a1 w1 s1 e1 => ?_
      have := hQ g' a1 w1 s1 e1
      cases e with
      | exit id => exact absurd hx (hne id st')
      | normal => exact this
      | ret => exact this
  | loop x ih =>
    intro ac hc e st st' a w g Q hx hr hQ
    simp only [compile, Option.map_eq_some_iff] at hc
    obtain ⟨a', ha, rfl⟩ := hc
    simp only [exec] at hx
    generalize (((firstRegion x).bind fun i => (fc.live.find? (·.1 == i)).map (·.2)).getD []) = live at hx
    have key : ∀ (n : Nat) (st : St) (a : Act) (w : World) (g : Gh), loopN (exec cfg call N a') live n st = some (e, st') → StR g st a w →
        (∀ g' a' w', StR g' st' a' w' → Evo g st.O st.S w g' st'.O st'.S w' → Q e.to a' w') → Code.rounds P x Q n a w := by
      intro n
      induction n with
      | zero => intro st a w g hx; simp [loopN] at hx
      | succ n ihn =>
        intro st a w g hx hr hQ
        rw [rounds_succ]
        simp only [loopN] at hx
        split at hx
        · rename_i st1 h1
          exact ih a' ha .normal _ st1 a w g _ h1 (hr.keep live) fun g' a1 w1 s1 e1 => ihn st1 a1 w1 g' hx s1 fun g2 a2 w2 s2 e2 => hQ g2 a2 w2 s2 (e1.trans e2)
        · rename_i hne
          refine ih a' ha e _ st' a w g _ hx (hr.keep live) fun g' a1 w1 s1 e1 => ?_
          have := hQ g' a1 w1 s1 e1
          cases e with
          | normal => exact absurd hx (hne st')
          | exit id => exact this
          | ret => exact this
    exact wp_loop_rounds N (key N st a w g hx hr hQ)
  | _ => intro ac hc; simp [compile] at hc

end
end Den
