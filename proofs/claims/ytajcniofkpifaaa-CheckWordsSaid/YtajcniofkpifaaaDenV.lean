/- Calls come to what den says. -/
import Derived.Test.YtajcniofkpifaaaDenU
set_option linter.unusedSectionVars false
set_option linter.unusedVariables false
set_option linter.unusedSimpArgs false
namespace Den
open Go
variable [GTab]

section
variable {P : Program} {cfg : Cfg} {g g' : Gh} {O O' : List ABlk} {S S' : List (List ABlk)} {w w' : World} {lim : Nat}

def resRun (tmps : Array Value) : ResultVar → Sem Value
  | .tmp t => pure (tmps.getD t undef)
  | .cell a t => do loadVar t (← asAddr (tmps.getD a undef))

theorem resL_sound {st : St} {a : Act} (hr : StR g st a w) : ∀ {rs : List ResultVar} {F : List RV} {vs : List AV}, cres P rs = some F → resL st F = some vs →
    ∃ xs : List Value, (rs.mapM (resRun a.tmps)).run P w = .ok xs w ∧ xs.length = vs.length ∧ ∀ (i : Nat) (v : AV), vs[i]? = some v → ∃ x, xs[i]? = some x ∧ VR g st.O st.S w (st.S.length + 1) v x
  | [], F, vs, hc, hv => by
    simp [cres] at hc; subst hc
    simp [resL] at hv; subst hv
    exact ⟨[], by simp [Sem.run_pure], rfl, fun i v h => by simp at h⟩
  | r :: rs, F, vs, hc, hv => by
    have key : ∀ {f : RV} {F' : List RV}, F = f :: F' → cres P rs = some F' → (∀ v, resV st f = some v → ∃ x, (resRun a.tmps r).run P w = .ok x w ∧ VR g st.O st.S w (st.S.length + 1) v x) →
        ∃ xs : List Value, ((r :: rs).mapM (resRun a.tmps)).run P w = .ok xs w ∧ xs.length = vs.length ∧ ∀ (i : Nat) (v : AV), vs[i]? = some v → ∃ x, xs[i]? = some x ∧ VR g st.O st.S w (st.S.length + 1) v x := by
      intro f F' hF hc' h1
      subst hF
      simp only [resL] at hv
      split at hv
      · rename_i v vs' e1 e2
        cases hv
        obtain ⟨x, p1, p2⟩ := h1 v e1
        obtain ⟨xs, q1, q2, q3⟩ := resL_sound hr hc' e2
        refine ⟨x :: xs, ?_, by simp [q2], fun i u hu => ?_⟩
        · simp only [List.mapM_cons, Sem.run_bind, p1, Result.andThen_ok, q1, Sem.run_pure]
        · cases i with
          | zero => simp at hu; subst hu; exact ⟨x, rfl, p2⟩
          | succ i => exact q3 i u (by simpa using hu)
      · cases hv
    cases r with
    | tmp t =>
      simp only [cres, Option.map_eq_some_iff] at hc
      obtain ⟨F', hc', rfl⟩ := hc
      refine key rfl hc' fun v hv' => ⟨a.tmps.getD t undef, by simp [resRun, Sem.run_pure], ?_⟩
      simp [resV] at hv'; subst hv'
      have := hr.env.2 t
      simpa using this
    | cell c t =>
      simp only [cres] at hc
      split at hc
      · rename_i n ag F' ht hc'
        cases hc
        refine key rfl hc' fun v hv' => ?_
        simp only [resV] at hv'
        obtain ⟨c', off, cs, h0, h1, h2⟩ := ald_cells hr.sim (hr.env.2 c) hv'
        obtain ⟨x, e, hx⟩ := run_loadVar_D ht h2 h1
        refine ⟨x, ?_, hx⟩
        simp only [resRun, h0]
        simp only [asAddr, Sem.run_bind, Sem.run_pure, Result.andThen_ok]
        exact e
      · cases hc

theorem oneOf_VR {vs : List AV} {xs : List Value} (hl : xs.length = vs.length) (h : ∀ (i : Nat) (v : AV), vs[i]? = some v → ∃ x, xs[i]? = some x ∧ VR g O S w lim v x) :
    VR g O S w lim (oneOf vs) (if h : xs.toArray.size = 1 then xs.toArray[0] else .tuple xs.toArray) := by
  match vs, xs, hl, h with
  | [v], [x], _, h =>
    obtain ⟨y, e, hy⟩ := h 0 v rfl
    simp at e; subst e
    simpa [oneOf] using hy
  | [], [], _, h =>
    simp only [oneOf]
    simp
    exact .tup (fun _ => undef) rfl (fun i hi => by simp at hi) (fun i a ha => by simp at ha)
  | v :: v2 :: vs, x :: x2 :: xs, hl, h =>
    have hne : ¬ ((x :: x2 :: xs).toArray.size = 1) := by simp
    rw [dif_neg hne]
    show VR g O S w lim (.tup (v :: v2 :: vs)) _
    refine .tup (fun i => ((x :: x2 :: xs)[i]?).getD undef) (by simpa using hl) (fun i hi => ?_) (fun i a ha => ?_)
    · have : i < (x :: x2 :: xs).length := by rw [hl]; exact hi
      simp [List.getElem?_eq_getElem this]
    · obtain ⟨y, e, hy⟩ := h i a ha
      simp only [e, Option.getD_some]; exact hy

theorem results_sound {st : St} {a : Act} (hr : StR g st a w) {fn : Func} {F : List RV} {vs : List AV} (hc : cres P fn.results.toList = some F) (hv : resL st F = some vs) :
    ∃ x, (results fn a.tmps).run P w = .ok x w ∧ VR g st.O st.S w (st.S.length + 1) (oneOf vs) x := by
  obtain ⟨xs, q1, q2, q3⟩ := resL_sound hr hc hv
  refine ⟨_, ?_, oneOf_VR q2 q3⟩
  unfold results
  have : ∀ (f : ResultVar → Sem Value), f = resRun a.tmps → ((fn.results.mapM f >>= fun vs => pure (if h : vs.size = 1 then vs[0] else .tuple vs)) : Sem Value).run P w = .ok (if h : xs.toArray.size = 1 then xs.toArray[0] else .tuple xs.toArray) w := by
    intro f hf
    subst hf
    rw [Array.mapM_eq_mapM_toList]
    simp only [Sem.run_bind, map_eq_pure_bind, q1, Result.andThen_ok, Sem.run_pure]
  exact this _ (by funext r; cases r <;> rfl)

/-- A function whose body comes to that. -/
theorem body_sound (hcfg : CfgOk P cfg) {call : FuncId → List AV → List ABlk → List (List ABlk) → Ans}
    (hcall : ∀ f args O S r O' S', call f args O S = some (r, O', S') → CallOk P f args O S r O' S') (hd : DrawnOk P cfg call) {n : Nat} {f : FuncId} {F : AFn} (hF : cfg.code f = some F)
    {args : List AV} {O : List ABlk} {S : List (List ABlk)} {r : AV} {O' : List ABlk} {S' : List (List ABlk)}
    (h : fin (cfg.own f) F (exec cfg call n F.body (enter F args O S)) = some (r, O', S')) : CallOk P f args O S r O' S' := by
  obtain ⟨hent, fn, fc, hfn, hcf⟩ := hcfg.code f F hF
  refine ⟨hent, fun g w vs hsim hlen hargs => ?_⟩
  unfold cfun at hcf
  split at hcf
  · rename_i body hb
    split at hcf
    · rename_i b' r' hb' hr'
      cases hcf
      simp only at h
      refine calls_of_wp hfn hb ?_
      have hSne : S ++ [[]] ≠ [] := by simp
      have hst : StR g (enter { ntmps := fn.ntmps, res := r', body := b' } args O S) { tmps := vs ++ Array.replicate (fn.ntmps - vs.size) undef, defers := [] } w := by
        refine ⟨hsim.pushF, ⟨⟨by simp [enter, hlen], hsim.pushF.globVR⟩, fun i => ?_⟩, rfl, hSne⟩
        simp only [enter]
        by_cases hi : i < args.length
        · obtain ⟨v, e1, e2⟩ := hargs i _ (List.getElem?_eq_getElem hi)
          have hi' : i < vs.size := by omega
          have e3 : (args ++ List.replicate (fn.ntmps - args.length) AV.undef).getD i .undef = args[i] := by
            rw [List.getD_eq_getElem?_getD, List.getElem?_append_left hi, List.getElem?_eq_getElem hi]; rfl
          have e4 : (vs ++ Array.replicate (fn.ntmps - vs.size) undef).getD i undef = v := by
            rw [Array.getD_eq_getD_getElem?, Array.getElem?_append_left hi', e1]; rfl
          rw [e3, e4]
          exact (e2.mono Mon.pushF).lim (by simp)
        · have e3 : (args ++ List.replicate (fn.ntmps - args.length) AV.undef).getD i .undef = .undef := by
            rw [List.getD_eq_getElem?_getD, List.getElem?_append_right (by omega), List.getElem?_replicate]
            split <;> rfl
          rw [e3]
          exact .undef
      cases hex : exec cfg call n b' (enter { ntmps := fn.ntmps, res := r', body := b' } args O S) with
      | none => rw [hex] at h; simp [fin] at h
      | some es =>
        obtain ⟨e, st⟩ := es
        rw [hex] at h
        refine exec_sound hcfg hcall hd n body b' hb' e _ st _ w g _ hex hst fun g1 a1 w1 s1 e1 => ?_
        have e1' : Evo g O (S ++ [[]]) w g1 st.O st.S w1 := e1
        have hlen' : st.S.length = S.length + 1 := by have := e1'.slen; simpa using this
        have hend : ∀ (vs' : List AV), resL st r' = some vs' → (if cfg.own f then (moveV st.S (oneOf vs')).map fun (v, Sb) => (v, st.O, Sb)
              else (snap st.S (oneOf vs')).map fun v => (v, st.O, st.S.dropLast)) = some (r, O', S') →
            a1.defers = [] ∧ ∃ v, (results fn a1.tmps).run P w1 = .ok v w1 ∧
              ∃ g' v', Ending.returned v = .returned v' ∧ Sim g' O' S' w1 ∧ Evo g O S w g' O' S' w1 ∧ VR g' O' S' w1 (S.length + 1) r v' := by
          intro vs' hres hans
          obtain ⟨x, x1, x2⟩ := results_sound s1 hr' hres
          refine ⟨s1.defers, x, x1, ?_⟩
          split at hans
          · simp only [Option.map_eq_some_iff, Prod.mk.injEq] at hans
            obtain ⟨⟨v', Sb⟩, hm, rfl, rfl, rfl⟩ := hans
            obtain ⟨X, g2, t1, t2, t3⟩ := moveV_sound s1.sim s1.ne x2 hm
            exact ⟨g2, x, rfl, t1, (Evo.pop hlen' e1').trans t2, by rw [← hlen']; exact t3⟩
          · simp only [Option.map_eq_some_iff, Prod.mk.injEq] at hans
            obtain ⟨v', hm, rfl, rfl, rfl⟩ := hans
            exact ⟨_, x, rfl, s1.sim.pop s1.ne, Evo.pop hlen' e1', by rw [← hlen']; exact snap_sound s1.sim s1.ne x2 hm⟩
        cases e with
        | normal =>
          simp only [fin] at h
          cases hres : resL st r' with
          | none => rw [hres] at h; cases h
          | some vs' => rw [hres] at h; exact hend vs' hres h
        | ret =>
          simp only [fin] at h
          cases hres : resL st r' with
          | none => rw [hres] at h; cases h
          | some vs' => rw [hres] at h; exact hend vs' hres h
        | exit id => simp [fin] at h
    · cases hcf
  · cases hcf


theorem den_sound (hcfg : CfgOk P cfg) (hd : ∀ call : FuncId → List AV → List ABlk → List (List ABlk) → Ans,
      (∀ f args O S r O' S', call f args O S = some (r, O', S') → CallOk P f args O S r O' S') → DrawnOk P cfg call) :
    ∀ (n : Nat) (f : FuncId) (args : List AV) (O : List ABlk) (S : List (List ABlk)) (r : AV) (O' : List ABlk) (S' : List (List ABlk)),
      den cfg n f args O S = some (r, O', S') → CallOk P f args O S r O' S' := by
  intro n
  induction n with
  | zero => intro f args O S r O' S' h; simp [den] at h
  | succ n ih =>
    intro f args O S r O' S' h
    simp only [den] at h
    split at h
    · rename_i p hp
      exact hcfg.prim f p hp args O S r O' S' h
    · split at h
      · cases h
      · rename_i F hF
        exact body_sound hcfg ih (hd _ ih) hF h

end
end Den
