/- Calls, and operations one after the other. -/
import Derived.Test.YtajcniofkpifaaaDenQ
set_option linter.unusedSectionVars false
set_option linter.unusedVariables false
set_option linter.unusedSimpArgs false
namespace Den
open Go
variable [GTab]

/-- A function that is entered where it is called. -/
def Enterable (P : Program) (f : FuncId) : Prop := ∃ fn, P.funcs[f]? = some fn ∧ fn.body.isSome = true ∧ (fn.name == "runtime.NumGoroutine") = false

/-- What a call comes to. -/
def CallOk (P : Program) (f : FuncId) (args : List AV) (O : List ABlk) (S : List (List ABlk)) (r : AV) (O' : List ABlk) (S' : List (List ABlk)) : Prop :=
  Enterable P f ∧ ∀ (g : Gh) (w : World) (vs : Array Value), Sim g O S w → vs.size = args.length →
    (∀ (i : Nat) (x : AV), args[i]? = some x → ∃ v, vs[i]? = some v ∧ VR g O S w (S.length + 1) x v) →
    Calls P f vs w fun e w' => ∃ g' v, e = .returned v ∧ Sim g' O' S' w' ∧ Evo g O S w g' O' S' w' ∧ VR g' O' S' w' (S.length + 1) r v

structure CfgOk (P : Program) (cfg : Cfg) : Prop where
  mixed : P.follows .mixedOrders = true
  code : ∀ f F, cfg.code f = some F → Enterable P f ∧ ∃ fn fc, P.funcs[f]? = some fn ∧ cfun P fc fn = some F
  prim : ∀ f p, cfg.prim f = some p → ∀ args O S r O' S', p args O S = some (r, O', S') → CallOk P f args O S r O' S'
  meth : ∀ t name f, cfg.meth t name = some f → ∀ v w, (method (P.types.size + Made.depth) t v name).run P w = .ok (f, v) w

section
variable {P : Program} {cfg : Cfg} {g : Gh} {w : World} {lim : Nat}

theorem run_callFunc_D {f : FuncId} (h : Enterable P f) (args : Array Value) (w : World) : (callFunc f args).run P w = .ok (.enter f args) w := by
  obtain ⟨fn, h1, h2, h3⟩ := h
  unfold callFunc
  simp only [Sem.run_bind, program, Sem.run, Result.andThen_ok, h1, h3, Bool.false_eq_true, if_false]
  have : fn.body.isNone = false := by cases hb : fn.body <;> simp [hb] at h2 ⊢
  simp [this, pure]

/-- How an operation that calls begins. -/
theorem call_begin (hcfg : CfgOk P cfg) {fc : FC} {o : Oper} {ao : AO} {env : List AV} {a : Act} {O S} (hc : cop P fc o = some ao) (hn : ao.isCall = true)
    (henv : EnvR g O S w lim env a.tmps) {f : FuncId} {args : List AV} (hcal : callee cfg env ao = some (f, args)) (he : Enterable P f) :
    ∃ vs : Array Value, (execOp a.eval o).run P w = .ok (.enter f vs) w ∧ vs.size = args.length ∧ ∀ (i : Nat) (x : AV), args[i]? = some x → ∃ v, vs[i]? = some v ∧ VR g O S w lim x v := by
  have hE : ∀ {x : Operand} {x' : Opd}, copd x = some x' → VR g O S w lim (ev env x') (a.eval x) := fun h => ev_sound (defers := a.defers) henv h
  have hcl := cop_cls hc
  obtain ⟨dst, op, type, pos, after, guard⟩ := o
  have hcls : ao.cls = .call := by unfold AO.cls; rw [if_pos hn]
  cases op <;> simp only at hcl <;> try (rw [hcl] at hcls; cases hcls)
  case store => obtain ⟨_, _, _, h⟩ := hcl; rw [h] at hn; cases hn
  case mapUpdate => obtain ⟨_, _, _, _, h⟩ := hcl; rw [h] at hn; cases hn
  case convert => rcases hcl with h | ⟨_, h⟩ <;> rw [h] at hcls <;> cases hcls
  case call c =>
    clear hcl
    simp only [cop] at hc
    unfold ccall at hc
    split at hc
    · cases hc
    · rename_i largs hargs
      obtain ⟨ha1, ha2⟩ := args_map (defers := a.defers) henv hargs
      split at hc
      · rename_i f' hcc
        cases hc
        simp only [callee] at hcal
        cases hcal
        refine ⟨c.args.map a.eval, ?_, ha1, ha2⟩
        have : execOp a.eval ⟨dst, .call c, type, pos, after, guard⟩ = callFunc f (c.args.map a.eval ++ #[]) := by
          simp only [execOp, resolve, hcc]
          simp [Act.eval, Deferred.ofValue, invoke]
        rw [this, Array.append_empty]
        exact run_callFunc_D he _ w
      · rename_i t hcc
        cases hc
        simp only [callee] at hcal
        split at hcal
        · rename_i f' caps hev
          cases hcal
          have hv := hE (x := .tmp t) rfl
          rw [hev] at hv
          generalize hfv : a.eval (.tmp t) = fv at hv
          cases hv with
          | func fz hs hf hvv =>
            rename_i cv
            refine ⟨c.args.map a.eval ++ cv, ?_, by simp [hs, ha1] , fun i x hx => ?_⟩
            · have : (execOp a.eval ⟨dst, .call c, type, pos, after, guard⟩).run P w = (callFunc f (c.args.map a.eval ++ cv)).run P w := by
                simp only [execOp, resolve, hcc, hfv]
                simp [Deferred.ofValue, invoke]
              rw [this]
              exact run_callFunc_D he _ w
            · have hsz : (c.args.map a.eval).size = (largs.map (ev env)).length := ha1
              by_cases hi : i < (largs.map (ev env)).length
              · rw [List.getElem?_append_left hi] at hx
                obtain ⟨v, hv1, hv2⟩ := ha2 i x hx
                exact ⟨v, by rw [Array.getElem?_append_left (by omega)]; exact hv1, hv2⟩
              · rw [List.getElem?_append_right (by omega)] at hx
                refine ⟨fz (i - (largs.map (ev env)).length), ?_, hvv _ x hx⟩
                rw [Array.getElem?_append_right (by omega), hsz]
                refine hf _ ?_
                rcases Nat.lt_or_ge (i - (largs.map (ev env)).length) caps.length with h' | h'
                · exact h'
                · rw [List.getElem?_eq_none h'] at hx; cases hx
        · cases hcal
      · cases hc
      · rename_i r m hcc
        simp only [Option.map_eq_some_iff] at hc
        obtain ⟨r', hr', rfl⟩ := hc
        simp only [callee] at hcal
        split at hcal
        · rename_i t v hev
          simp only [Option.map_eq_some_iff] at hcal
          obtain ⟨f', hm, hcal⟩ := hcal
          cases hcal
          have hv := hE hr'
          rw [hev] at hv
          generalize hrv : a.eval r = rv at hv
          cases hv with
          | iface hvv =>
            rename_i x
            refine ⟨#[x] ++ c.args.map a.eval, ?_, by simp [show (c.args.map a.eval).size = (largs.map (ev env)).length from ha1]; omega, fun i y hy => ?_⟩
            · have hme := hcfg.meth t m f hm x w
              have hex : (execOp a.eval ⟨dst, .call c, type, pos, after, guard⟩).run P w = (callMethod (.iface t x) m (c.args.map a.eval)).run P w := by
                simp only [execOp, resolve, hcc, hrv]
                have h1 : (#[Value.iface t x] ++ c.args.map a.eval)[0]? = some (.iface t x) := by rw [Array.getElem?_append_left (by simp)]; rfl
                have h2 : (#[Value.iface t x] ++ c.args.map a.eval).extract 1 (#[Value.iface t x] ++ c.args.map a.eval).size = c.args.map a.eval := by
                  rw [Array.extract_append]; simp
                simp only [Sem.run_bind, Sem.run_pure, Result.andThen_ok, invoke, h1, h2]
              rw [hex]
              unfold callMethod
              simp only [Sem.run_bind, program, Sem.run, Result.andThen_ok]
              simp only [hme, Result.andThen_ok]
              exact run_callFunc_D he _ w
            · cases i with
              | zero => simp at hy; subst hy; exact ⟨x, by rw [Array.getElem?_append_left (by simp)]; rfl, hvv⟩
              | succ i =>
                obtain ⟨v, hv1, hv2⟩ := ha2 i y (by simpa using hy)
                refine ⟨v, ?_, hv2⟩
                rw [Array.getElem?_append_right (by simp)]
                simpa using hv1
        · cases hcal
      · rename_i b hcc
        exfalso
        simp only at hc
        split at hc
        · split at hc <;> first | (cases hc; cases hn) | cases hc
        · split at hc
          · unfold capp at hc; split at hc <;> first | (split at hc <;> cases hc; cases hn) | cases hc
          · unfold capp at hc; split at hc <;> first | (split at hc <;> cases hc; cases hn) | cases hc
          · cases hc
        · split at hc
          · split at hc <;> cases hc; cases hn
          · cases hc
        · split at hc
          · simp only [Option.map_eq_some_iff] at hc
            obtain ⟨_, _, rfl⟩ := hc; cases hn
          · cases hc
        · cases hc; cases hn
        · cases hc; cases hn
        · cases hc


/-- What stands between a state and the machine's. -/
structure StR (g : Gh) (st : St) (a : Act) (w : World) : Prop where
  sim : Sim g st.O st.S w
  env : EnvR g st.O st.S w (st.S.length + 1) st.env a.tmps
  defers : a.defers = []
  ne : st.S ≠ []

theorem StR.put {st : St} {a : Act} (h : StR g st a w) (dst : Option Nat) {v : AV} {x : Value} (hv : VR g st.O st.S w (st.S.length + 1) v x) : StR g (put st dst v) (a.put dst x) w := by
  cases dst with
  | none => exact h
  | some d => exact ⟨h.sim, h.env.set d hv, h.defers, h.ne⟩

/-- One operation that is carried out, as the walk of a region sees it. -/
theorem opx_wp (hcfg : CfgOk P cfg) {call : FuncId → List AV → List ABlk → List (List ABlk) → Ans}
    (hcall : ∀ f args O S r O' S', call f args O S = some (r, O', S') → CallOk P f args O S r O' S')
    {fc : FC} {o : Oper} {ao : AO} {st : St} {a : Act} (hc : cop P fc o = some ao) {v : AV} {O' S'} (hx : opx cfg call st ao = some (v, O', S')) (hr : StR g st a w)
    {K : Act → World → Prop} {Q : Exit → Act → World → Prop}
    (hK : ∀ g' x w', Sim g' O' S' w' → Evo g st.O st.S w g' O' S' w' → VR g' O' S' w' (st.S.length + 1) v x → K (a.put o.dst x) w') : o.wp P a w K Q := by
  unfold opx at hx
  unfold Oper.wp
  split at hx
  · rename_i hn
    split at hx
    · rename_i f args hcal
      obtain ⟨he, hok⟩ := hcall _ _ _ _ _ _ _ hx
      obtain ⟨vs, e1, e2, e3⟩ := call_begin hcfg hc hn hr.env hcal he
      rw [e1, Oper.upon_enter]
      refine (hok g w vs hr.sim e2 e3).mono fun e w' h => ?_
      obtain ⟨g', x, rfl, h1, h2, h3⟩ := h
      exact hK g' x w' h1 h2 h3
    · cases hx
  · rename_i hn
    -- by its kind
    rcases hcls : ao.cls with _ | _ | _ | _
    · obtain ⟨rfl, rfl, x, e1, e2⟩ := still_sound hc (by
        unfold AO.cls at hcls
        rw [if_neg hn] at hcls
        by_cases hs : ao.still = true
        · exact hs
        · rw [if_neg hs] at hcls; split at hcls <;> cases hcls) hx hr.sim hr.env
      rw [e1, Oper.upon_value]
      exact hK g x w hr.sim (.refl ..) e2
    · rcases new_sound hc hcls hx hr.sim hr.env with ⟨obj, b, xo, mk, rfl, rfl, _, e1, e2, e3⟩ | ⟨rfl, rfl, xo, n, x, e1, e2⟩
      · rw [e1, Oper.upon_value]
        obtain ⟨s1, s2⟩ := hr.sim.new_at hr.ne obj e2
        refine hK _ _ _ s1 s2 ?_
        exact e3 _ _ _ _ w.heap.size _ s1 (by cases obj <;> simp [newD]) (by simp [Gh.addAt]) (by rw [gm_new hr.ne]; simp)
      · rw [e1, Oper.upon_value]
        exact hK _ _ _ (hr.sim.push_imm xo n) (Evo.push_imm hr.sim xo n) (e2.lim (Nat.zero_le _))
    · obtain ⟨g', w', nx, x, e1, e2, e3, e4, e5⟩ := eff_sound hc hcls hx hr.sim hr.ne rfl hr.env
      rw [e1]
      rcases e2 with rfl | ⟨rfl, rfl⟩
      · rw [Oper.upon_value]; exact hK g' x w' e3 e4 e5
      · rw [Oper.upon_skip]; exact hK g' undef w' e3 e4 e5
    · unfold AO.cls at hcls
      rw [if_neg hn] at hcls
      split at hcls
      · cases hcls
      · split at hcls <;> cases hcls

theorem tup_nil_inv {O S} {v : Value} (h : VR g O S w lim (.tup []) v) : v = .tuple #[] := by
  cases h with
  | tup f hs _ _ => exact congrArg _ (Array.eq_empty_of_size_eq_zero (by simpa using hs))

/-- A guard says the same on both sides. -/
theorem wanted_D {O S} {env : List AV} {a : Act} {ops : Array Oper} {o : Oper} {gd : Option (Nat × Bool)} (henv : EnvR g O S w lim env a.tmps)
    (hg : match o.guard with | none => gd = none | some (j, want) => ∃ d, (ops[j]?).bind (·.dst) = some d ∧ gd = some (d, want)) {b : Bool} (h : wanted env gd = some b) :
    Region.wanted o (yielded ops a.tmps) = b := by
  unfold Region.wanted
  cases hgd : o.guard with
  | none =>
    rw [hgd] at hg
    simp only at hg
    subst hg
    simp [wanted] at h
    subst h; rfl
  | some jw =>
    obtain ⟨j, want⟩ := jw
    rw [hgd] at hg
    simp only at hg
    obtain ⟨d, hd, rfl⟩ := hg
    simp only [wanted] at h
    have hv := henv.2 d
    simp only [yielded, hd, Option.bind_some]
    split at h
    · rename_i t ht
      rw [ht] at hv
      generalize hx : a.tmps.getD d undef = x at hv
      cases hv
      have : a.tmps[d]? = some (.bool t) := by
        rw [Array.getD_eq_getD_getElem?] at hx
        cases hq : a.tmps[d]? with
        | none => rw [hq] at hx; cases hx
        | some y => rw [hq] at hx; simp at hx; rw [hx]
      rw [this]
      cases h
      simp
    · rename_i ht
      rw [ht] at hv
      have hx := tup_nil_inv hv
      cases h
      rw [Array.getD_eq_getD_getElem?] at hx
      cases hq : a.tmps[d]? with
      | none => simp
      | some y => rw [hq] at hx; simp at hx; subst hx; simp
    · cases h

theorem coper_spec {fc : FC} {ops : Array Oper} {o : Oper} {ap : AOp} (h : coper P fc ops o = some ap) :
    cop P fc o = some ap.op ∧ ap.dst = o.dst ∧ ap.chk = [] ∧
    (match o.guard with | none => ap.guard = none | some (j, want) => ∃ d, (ops[j]?).bind (·.dst) = some d ∧ ap.guard = some (d, want)) := by
  unfold coper at h
  split at h
  · cases h
  · rename_i ao hao
    split at h
    · rename_i hg; cases h; exact ⟨hao, rfl, rfl, by rw [hg]⟩
    · rename_i j want hg
      split at h
      · rename_i d hd; cases h; exact ⟨hao, rfl, rfl, by rw [hg]; exact ⟨d, hd, rfl⟩⟩
      · cases h

/-- Operations one after the other, in the order of the text. -/
theorem seq_ops (hcfg : CfgOk P cfg) {call : FuncId → List AV → List ABlk → List (List ABlk) → Ans}
    (hcall : ∀ f args O S r O' S', call f args O S = some (r, O', S') → CallOk P f args O S r O' S') {fc : FC} {ops : Array Oper} {Q : Exit → Act → World → Prop} :
    ∀ (idx : List Nat) (l : List AOp), l.length = idx.length → (∀ (j i : Nat) (ap : AOp), idx[j]? = some i → l[j]? = some ap → ∃ o, ops[i]? = some o ∧ coper P fc ops o = some ap) →
      ∀ (st st' : St) (a : Act) (w : World) (g : Gh), execOps cfg call l st = some st' → StR g st a w →
        (∀ g' a' w', StR g' st' a' w' → Evo g st.O st.S w g' st'.O st'.S w' → Q .normal a' w') → wpOps P ops Q idx a w
  | [], l, hl, _, st, st', a, w, g, hx, hr, hQ => by
    cases l with
    | nil => simp [execOps] at hx; subst hx; exact hQ g a w hr (.refl ..)
    | cons _ _ => simp at hl
  | i :: idx, l, hl, hi, st, st', a, w, g, hx, hr, hQ => by
    cases l with
    | nil => simp at hl
    | cons ap l =>
      obtain ⟨o, ho, hco⟩ := hi 0 i ap rfl rfl
      obtain ⟨c1, c2, c3, c4⟩ := coper_spec hco
      have hnext : ∀ (j i' : Nat) (ap' : AOp), idx[j]? = some i' → l[j]? = some ap' → ∃ o, ops[i']? = some o ∧ coper P fc ops o = some ap' := fun j i' ap' h1 h2 => hi (j + 1) i' ap' (by simpa using h1) (by simpa using h2)
      unfold execOps at hx
      unfold wpOps
      simp only [ho]
      cases hw : wanted st.env ap.guard with
      | none => rw [hw] at hx; cases hx
      | some b =>
        rw [hw] at hx
        have hwd := wanted_D (ops := ops) (o := o) hr.env c4 hw
        rw [hwd]
        cases b with
        | false =>
          simp only [Bool.false_eq_true, if_false]
          simp only at hx
          refine seq_ops hcfg hcall idx l (by simpa using hl) hnext _ st' _ w g hx ?_ (fun g' a' w' h1 h2 => hQ g' a' w' h1 ?_)
          · rw [c2]; exact hr.put o.dst (.tup (fun _ => undef) rfl (fun i hi => by simp at hi) (fun i a ha => by simp at ha))
          · rw [c2] at h2; cases hd : o.dst <;> rw [hd] at h2 <;> exact h2
        | true =>
          simp only [if_true]
          simp only at hx
          split at hx
          · cases hx
          · rename_i v O1 S1 hop
            split at hx
            · refine .inl (opx_wp hcfg hcall c1 hop hr fun g1 x w1 h1 h2 h3 => ?_)
              have hst1 : StR g1 { st with O := O1, S := S1 } a w1 := ⟨h1, by
                have := hr.env.mono h2.mon
                rw [show ({ st with O := O1, S := S1 } : St).S.length = st.S.length from h2.slen]
                exact this, hr.defers, by
                intro h0
                have := h2.slen
                simp only at h0
                rw [h0] at this
                exact hr.ne (List.length_eq_zero_iff.1 this.symm)⟩
              refine seq_ops hcfg hcall idx l (by simpa using hl) hnext _ st' _ w1 g1 hx ?_ (fun g' a' w' p1 p2 => hQ g' a' w' p1 ?_)
              · rw [c2]
                refine hst1.put o.dst ?_
                rw [show ({ st with O := O1, S := S1 } : St).S.length = st.S.length from h2.slen]
                exact h3
              · refine h2.trans ?_
                rw [c2] at p2
                cases hd : o.dst <;> rw [hd] at p2 <;> exact p2
            · cases hx

end
end Den
