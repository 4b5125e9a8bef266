/- Every operation that leaves the memory as it is, together. -/
import Derived.Test.YtajcniofkpifaaaDenL
import Derived.Test.YtajcniofkpifaaaDenCc
set_option linter.unusedSectionVars false
set_option linter.unusedVariables false
set_option linter.unusedSimpArgs false
namespace Den
open Go
variable [GTab]

section
variable {P : Program} {g : Gh} {w : World} {lim : Nat}

/-- What an operation that leaves the memory as it is comes to. -/
def StillOk (P : Program) (g : Gh) (st : St) (w : World) (lim : Nat) (a : Act) (o : Oper) (v : AV) : Prop :=
  ∃ v', (execOp a.eval o).run P w = .ok (.value v') w ∧ VR g st.O st.S w lim v v'

theorem StillOk.of {st : St} {a : Act} {o : Oper} {v : AV} {s : Sem Value} (h : ∃ v', s.run P w = .ok v' w ∧ VR g st.O st.S w lim v v')
    (he : execOp a.eval o = (do pure (.value (← s)))) : StillOk P g st w lim a o v := by
  obtain ⟨v', e1, e2⟩ := h
  exact ⟨v', by rw [he]; simp only [Sem.run_bind, e1, Result.andThen_ok]; rfl, e2⟩

theorem some3 {α β γ : Type} {a a' : α} {b b' : β} {c c' : γ} (h : some (a, b, c) = some (a', b', c')) : a = a' ∧ b = b' ∧ c = c' := by
  cases h; exact ⟨rfl, rfl, rfl⟩

theorem pureO_some {st : St} {x : Option AV} {v : AV} {O' S'} (h : (x.map (·, st.O, st.S) : Ans) = some (v, O', S')) : x = some v ∧ O' = st.O ∧ S' = st.S := by
  cases x with
  | none => cases h
  | some y => cases h; exact ⟨rfl, rfl, rfl⟩

theorem run_placesOf : ∀ (l : List Field) (pl : List (Nat × Nat)), placesOf P l = some pl →
    (l.mapM fun f => do pure (f.offset, ← Go.sizeOf f.type) : Sem (List (Nat × Nat))).run P w = .ok pl w
  | [], pl, h => by simp [placesOf] at h; subst h; rfl
  | f :: r, pl, h => by
    simp only [placesOf] at h
    split at h
    · rename_i n _ l h1 h2
      cases h
      obtain ⟨i, d, e1, e2, rfl, rfl⟩ := tyOf_spec h1
      rw [List.mapM_cons]
      simp only [Sem.run_bind, run_sizeOf_D e1, Result.andThen_ok, Sem.run_pure, run_placesOf r l h2]
    · cases h

theorem sameNow_D {kt : TypeId} {q : SK} {d : TypeDesc} (hd : P.underlying kt = some d) (hq : skOf (some d) = some q) {O S lim} {x y : AV} {v u : Value}
    (hx : VR g O S w lim x v) (hy : VR g O S w lim y u) {b : Bool} (h : eqCell q x y = some b) : Instr.sameNow d v u = some b := by
  rcases skOf_spec hq with ⟨rfl, e⟩ | ⟨rfl, k, e⟩ | ⟨rfl, e⟩ <;> cases e <;> cases x <;> cases y <;> simp [eqCell] at h <;> cases hx <;> cases hy
  · subst h; rfl
  · obtain ⟨rfl, rfl⟩ := h; simp [Instr.sameNow]
  · subst h
    simp only [Instr.sameNow]
    rw [beq_toListBytes]
    simp

theorem findNow_D {kt : TypeId} {q : SK} {d : TypeDesc} (hd : P.underlying kt = some d) (hq : skOf (some d) = some q) {O S lim} {x : AV} {v : Value} (hx : VR g O S w lim x v) :
    ∀ (es : List (AV × AV)) (ms : List MapEntry), ms.length = es.length →
      (∀ (i : Nat) (a : AV × AV), es[i]? = some a → ∃ m, ms[i]? = some m ∧ VR g O S w lim a.1 m.key ∧ VR g O S w lim a.2 m.val) →
      ∀ (n : Nat) (r : Option AV), findE q x es = some r →
        (r = none ∧ Instr.findNow d v ms n = some none) ∨
        (∃ y z i, r = some y ∧ Instr.findNow d v ms n = some (some (n + i, z)) ∧ VR g O S w lim y z ∧ i < ms.length ∧ ∃ a, es[i]? = some a ∧ a.2 = y)
  | [], ms, hl, _, n, r, h => by
    simp [findE] at h; subst h
    cases ms with
    | nil => exact .inl ⟨rfl, rfl⟩
    | cons m ms => simp at hl
  | (k, y) :: es, ms, hl, hr, n, r, h => by
    cases ms with
    | nil => simp at hl
    | cons m ms =>
      obtain ⟨m', hm, hk, hv⟩ := hr 0 (k, y) rfl
      simp at hm; subst hm
      simp only [findE] at h
      cases he : eqCell q x k with
      | none => rw [he] at h; cases h
      | some b =>
        rw [he] at h
        have hs := sameNow_D hd hq hx hk he
        cases b with
        | true =>
          cases h
          exact .inr ⟨y, m.val, 0, rfl, by simp [Instr.findNow, hs], hv, by simp, (k, y), rfl, rfl⟩
        | false =>
          simp only at h
          rcases findNow_D hd hq hx es ms (by simpa using hl) (fun i a ha => by simpa using hr (i + 1) a (by simpa using ha)) (n + 1) r h with ⟨e1, e2⟩ | ⟨y', z, i, e1, e2, e3, e4, a, e5, e6⟩
          · exact .inl ⟨e1, by simp [Instr.findNow, hs, e2]⟩
          · exact .inr ⟨y', z, i + 1, e1, by simp [Instr.findNow, hs, e2]; omega, e3, by simpa using e4, a, by simpa using e5, e6⟩

theorem checkKey_D {kt : TypeId} {q : SK} {d : TypeDesc} (hd : P.underlying kt = some d) (hq : skOf (some d) = some q) (b : Bool) (v : Value) : (Instr.checkKey b 10000 kt v).run P w = .ok () w := by
  unfold Instr.checkKey
  simp only [Sem.run_bind, run_underlying_D hd, Result.andThen_ok]
  rcases skOf_spec hq with ⟨rfl, e⟩ | ⟨rfl, k, e⟩ | ⟨rfl, e⟩ <;> cases e <;> cases v <;> rfl

def lkOf : TypeDesc → Option LK
  | .slice _ => some .slice
  | .string => some .string
  | .map _ _ => some .map
  | _ => none

theorem run_len {O S} {k : LK} {d : TypeDesc} {t type : TypeId} {x : AV} {xv : Value} {n : Nat} {ts : Array TypeId} {as : Array Value} (hd : P.underlying t = some d) (hk : lkOf d = some k) (hsim : Sim g O S w)
    (hv : VR g O S w lim x xv) (h : lenA O S k x = some n) (ht : ts[0]? = some t) (ha : as[0]? = some xv) : (Builtin.len_ ts type as).run P w = .ok (.int .i64 n) w := by
  unfold Builtin.len_
  simp only [ht, ha, Sem.run_bind, run_underlying_D hd, Result.andThen_ok]
  cases d <;> simp [lkOf] at hk <;> subst hk <;> cases x <;> simp only [lenA] at h <;> try (cases h; done)
  case map.map d' k' kt e =>
    cases hv with
    | map hdl hb hr =>
      split at h
      · rename_i es hg
        cases h
        obtain ⟨ms, ck, q1, q2, q3⟩ := hsim.blk _ _ _ _ hr hg
        simp [getObj, Sem.run, q1, pure, goInt, q2]
      · cases h
  all_goals (cases h; cases hv <;> first | rfl | simp [goInt, pure, Sem.run, ByteArray.size])

theorem zero1_sound {O S} {e : TypeId} {z : AV} (h : zero1 P e = some z) : ∃ zv, (zeroValue e).run P w = .ok zv w ∧ VR g O S w lim z zv := by
  unfold zero1 at h
  split at h
  · rename_i i hi
    split at h
    · rename_i zv hz
      simp only [Option.bind_eq_some_iff] at h
      obtain ⟨v0, hv0, h⟩ := h
      split at h
      · cases h
        exact ⟨zv, by simp [zeroValue, run_typeInfo_D hi, hz, pure], ofValue_sound zv _ hv0⟩
      · cases h
    · cases h
  · cases h

theorem run_typeAssert_D {O S} {asserted xt : TypeId} {d : TypeDesc} {z : AV} {zv : Value} {ok : Bool} {x r : AV} {u : Value} (hd : P.underlying asserted = some d)
    (e1 : (zeroValue asserted).run P w = .ok zv w) (hz1 : VR g O S w lim z zv) (hv : VR g O S w lim x u)
    (hb : tasA (holdsOf P asserted d) (unwOf d) ok z x = some r)
    (fin : ∀ (r : AV) (rv : Value) (b : Bool), VR g O S w lim r rv → VR g O S w lim (.tup [r, .bool b]) (.tuple #[rv, .bool b])) :
    ∃ v', (Instr.typeAssert u xt asserted ok).run P w = .ok v' w ∧ VR g O S w lim r v' := by
  unfold Instr.typeAssert
  simp only [Sem.run_bind, run_underlying_D hd, Result.andThen_ok]
  cases x <;> simp only [tasA] at hb <;> try (cases hb; done)
  case nili =>
    split at hb
    · rename_i hok
      subst hok
      cases hb
      cases hv
      refine ⟨_, ?_, fin _ _ _ hz1⟩
      cases d <;> simp [e1, Sem.run_bind, Sem.run_pure]
    · cases hb
  case iface t v =>
    cases hv with
    | iface hv' =>
      rename_i u'
      cases hh : holdsOf P asserted d t with
      | none => rw [hh] at hb; cases hb
      | some b =>
        rw [hh] at hb
        by_cases hi : ∃ want, d = .interface want
        · obtain ⟨want, rfl⟩ := hi
          simp only [holdsOf] at hh
          cases hinf : P.info? t with
          | none => rw [hinf] at hh; cases hh
          | some i =>
            rw [hinf] at hh
            simp only [Sem.run_bind, run_typeInfo_D hinf, Result.andThen_ok]
            cases hm : Instr.missingMethod want i.methods with
            | none =>
              simp [hm] at hh; subst hh
              simp [unwOf] at hb; subst hb
              cases ok with
              | false => exact ⟨_, rfl, by simpa using VR.iface hv'⟩
              | true => exact ⟨_, rfl, by simpa using fin _ _ _ (VR.iface hv')⟩
            | some m =>
              simp [hm] at hh; subst hh
              simp at hb
              obtain ⟨rfl, rfl⟩ := hb
              exact ⟨_, by simp [e1, Sem.run_bind, Sem.run_pure], fin _ _ _ hz1⟩
        · have hh' : (t == asserted) = b := by
            unfold holdsOf at hh
            split at hh
            · exact absurd ⟨_, rfl⟩ hi
            · simpa using hh
          have hun : unwOf d = true := by
            unfold unwOf
            split
            · exact absurd ⟨_, rfl⟩ hi
            · rfl
          rw [hun] at hb
          cases b with
          | true =>
            have : t = asserted := by simpa using hh'
            subst this
            simp at hb; subst hb
            cases ok with
            | false => exact ⟨u', by cases d <;> first | exact absurd ⟨_, rfl⟩ hi | simp [Sem.run_pure], by simpa using hv'⟩
            | true => exact ⟨.tuple #[u', .bool true], by cases d <;> first | exact absurd ⟨_, rfl⟩ hi | simp [Sem.run_pure], by simpa using fin _ _ _ hv'⟩
          | false =>
            have hne : t ≠ asserted := by simpa using hh'
            simp at hb
            obtain ⟨rfl, rfl⟩ := hb
            exact ⟨.tuple #[zv, .bool false], by cases d <;> first | exact absurd ⟨_, rfl⟩ hi | simp [hne, e1, Sem.run_bind, Sem.run_pure], fin _ _ _ hz1⟩

theorem still_sound {fc : FC} {o : Oper} {ao : AO} {st : St} {a : Act} {v : AV} {O' : List ABlk} {S' : List (List ABlk)} (hc : cop P fc o = some ao) (hst : ao.still = true)
    (hx : aop st ao = some (v, O', S')) (hsim : Sim g st.O st.S w) (henv : EnvR g st.O st.S w lim st.env a.tmps) :
    O' = st.O ∧ S' = st.S ∧ StillOk P g st w lim a o v := by
  have hE : ∀ {x : Operand} {x' : Opd}, copd x = some x' → VR g st.O st.S w lim (ev st.env x') (a.eval x) := fun h => ev_sound (defers := a.defers) henv h
  obtain ⟨dst, op, type, pos, after, guard⟩ := o
  cases op <;> simp only [cop] at hc <;> try (cases hc; done)
  case move x =>
    simp only [Option.map_eq_some_iff] at hc
    obtain ⟨x', hx', rfl⟩ := hc
    obtain ⟨rfl, rfl, rfl⟩ := some3 hx
    exact ⟨rfl, rfl, _, rfl, hE hx'⟩
  case assign x =>
    simp only [Option.map_eq_some_iff] at hc
    obtain ⟨x', hx', rfl⟩ := hc
    obtain ⟨rfl, rfl, rfl⟩ := some3 hx
    exact ⟨rfl, rfl, _, rfl, hE hx'⟩
  case pick c x y =>
    split at hc
    · rename_i c' x' y' h1 h2 h3
      cases hc
      simp only [aop] at hx
      split at hx
      · rename_i t ht
        obtain ⟨rfl, rfl, rfl⟩ := some3 hx
        have hc' := hE h1
        rw [ht] at hc'
        refine ⟨rfl, rfl, if t then a.eval x else a.eval y, ?_, ?_⟩
        · simp only [execOp]
          generalize a.eval c = cv at hc'
          cases hc'
          simp [asBool, pure]
        · cases t
          · exact hE h3
          · exact hE h2
      · cases hx
    · cases hc
  case alloc t => simp only [Option.map_eq_some_iff] at hc; obtain ⟨z, _, rfl⟩ := hc; cases hst
  case box t x =>
    split at hc
    · cases hc; cases hst
    · cases hc
  case build t parts =>
    split at hc
    · rename_i fs z h1 h2
      split at hc
      · rename_i pl hpl
        simp only [Option.map_eq_some_iff] at hc
        obtain ⟨ps, hp, rfl⟩ := hc
        simp only [aop] at hx
        obtain ⟨hb, rfl, rfl⟩ := pureO_some hx
        simp only [Option.map_eq_some_iff] at hb
        obtain ⟨r, hr, rfl⟩ := hb
        refine ⟨rfl, rfl, ?_⟩
        obtain ⟨zv, i, e1, e2, e3, e4⟩ := run_zero_D h2 g st.O st.S w lim
        obtain ⟨rv, q1, q2⟩ := fill_sound (defers := a.defers) _ henv parts.toList ps hp z _ e4 r hr
        refine .of (s := Instr.build t (parts.map fun (i, x) => (i, a.eval x))) ⟨.agg rv, ?_, q2.toAgg⟩ rfl
        unfold Instr.build
        simp only [Sem.run_bind, e1, Result.andThen_ok, run_underlying_D h1]
        have hm : (fs.mapM fun f => do pure (f.offset, ← Go.sizeOf f.type) : Sem (Array (Nat × Nat))).run P w = .ok pl.toArray w := by
          have : fs = fs.toList.toArray := by simp
          rw [this, List.mapM_toArray]
          simp only [Sem.run_map, run_placesOf fs.toList pl hpl, Result.andThen_ok]
        rw [hm]
        simp only [Result.andThen_ok]
        have hq : Instr.fill (fun i => pl.toArray[i]?) zv.cells (parts.map fun (i, x) => (i, a.eval x)).toList = some rv := by
          simpa using q1
        rw [hq]; rfl
      · cases hc
    · rename_i n e z h1 h2
      simp only [Option.bind_eq_some_iff, Option.map_eq_some_iff] at hc
      obtain ⟨⟨n, ag⟩, ht, ps, hp, rfl⟩ := hc
      simp only [aop] at hx
      obtain ⟨hb, rfl, rfl⟩ := pureO_some hx
      simp only [Option.map_eq_some_iff] at hb
      obtain ⟨r, hr, rfl⟩ := hb
      refine ⟨rfl, rfl, ?_⟩
      obtain ⟨zv, i, e1, e2, e3, e4⟩ := run_zero_D h2 g st.O st.S w lim
      obtain ⟨rv, q1, q2⟩ := fill_sound (defers := a.defers) _ henv parts.toList ps hp z _ e4 r hr
      obtain ⟨ie, d, t1, t2, rfl, rfl⟩ := tyOf_spec ht
      refine .of (s := Instr.build t (parts.map fun (i, x) => (i, a.eval x))) ⟨.agg rv, ?_, q2.toAgg⟩ rfl
      unfold Instr.build
      simp only [Sem.run_bind, e1, Result.andThen_ok, run_underlying_D h1, run_sizeOf_D t1]
      have hq : Instr.fill (fun i => some (i * ie.size, ie.size)) zv.cells (parts.map fun (i, x) => (i, a.eval x)).toList = some rv := by
        simpa using q1
      rw [hq]; rfl
    · cases hc
  case buildSlice t len parts =>
    split at hc
    · split at hc
      · split at hc
        · cases hc; cases hst
        · cases hc
      · cases hc
    · cases hc
  case load t x =>
    split at hc
    · rename_i n ag x' h1 h2
      cases hc
      simp only [aop] at hx
      obtain ⟨hb, rfl, rfl⟩ := pureO_some hx
      exact ⟨rfl, rfl, .of (run_load_sound hsim h1 (hE h2) hb) rfl⟩
    · cases hc
  case store t x y =>
    split at hc
    · cases hc; cases hst
    · cases hc
  case nilCheck x =>
    simp only [Option.map_eq_some_iff] at hc
    obtain ⟨x', hx', rfl⟩ := hc
    have hv := hE hx'
    simp only [aop] at hx
    split at hx
    · rename_i hk
      obtain ⟨rfl, rfl, rfl⟩ := some3 hx
      exact ⟨rfl, rfl, _, nilc_sound hv hk rfl rfl, hv⟩
    · cases hx
  case binOp op t x y yt =>
    unfold cbin at hc
    split at hc
    · rename_i x' y' d h1 h2 hd
      have hxv := hE h1
      have hyv := hE h2
      have hbin : ao = .bin op x' y' → O' = st.O ∧ S' = st.S ∧ StillOk P g st w lim a ⟨dst, .binOp op t x y yt, type, pos, after, guard⟩ v := by
        rintro rfl
        simp only [aop] at hx
        obtain ⟨hb, rfl, rfl⟩ := pureO_some hx
        exact ⟨rfl, rfl, .of (run_bin_sound hb hxv hyv) rfl⟩
      have hnil : ∀ (k : NK), nkOf d = some k → cnil k op x y x' y' = some ao → O' = st.O ∧ S' = st.S ∧ StillOk P g st w lim a ⟨dst, .binOp op t x y yt, type, pos, after, guard⟩ v := by
        intro k hk hn
        unfold cnil at hn
        split at hn
        · rename_i neg hneg
          have hop := negOf_spec hneg
          subst hop
          by_cases n1 : isNilK k y = true
          · rw [if_pos n1] at hn
            cases hn
            have := isNilK_spec n1
            subst this
            simp only [aop] at hx
            obtain ⟨hb, rfl, rfl⟩ := pureO_some hx
            simp only [Option.map_eq_some_iff] at hb
            obtain ⟨b, hb, rfl⟩ := hb
            exact ⟨rfl, rfl, .of (s := do eqGuard (if neg then .neq else .eql) t x (.const (nilOf k)) (a.eval x) (nilOf k); binOp (if neg then .neq else .eql) t (a.eval x) (nilOf k))
              ⟨_, (run_eqn_sound hd hk hxv hb (.inr ⟨_, rfl⟩) rfl).1, .bool⟩ rfl⟩
          · rw [if_neg n1] at hn
            by_cases n2 : isNilK k x = true
            · rw [if_pos n2] at hn
              cases hn
              have := isNilK_spec n2
              subst this
              simp only [aop] at hx
              obtain ⟨hb, rfl, rfl⟩ := pureO_some hx
              simp only [Option.map_eq_some_iff] at hb
              obtain ⟨b, hb, rfl⟩ := hb
              exact ⟨rfl, rfl, .of (s := do eqGuard (if neg then .neq else .eql) t (.const (nilOf k)) y (nilOf k) (a.eval y); binOp (if neg then .neq else .eql) t (nilOf k) (a.eval y))
                ⟨_, (run_eqn_sound hd hk hyv hb (.inl ⟨_, rfl⟩) rfl).2, .bool⟩ rfl⟩
            · rw [if_neg n2] at hn; cases hn
        · cases hn
      unfold cbinD at hc
      split at hc
      · cases hc; exact hbin rfl
      · cases hc; exact hbin rfl
      · simp only [Option.map_eq_some_iff] at hc
        obtain ⟨neg, hneg, rfl⟩ := hc
        have hop := negOf_spec hneg
        subst hop
        simp only [aop] at hx
        split at hx
        · rename_i p q e1 e2
          obtain ⟨rfl, rfl, rfl⟩ := some3 hx
          rw [e1] at hxv
          rw [e2] at hyv
          refine ⟨rfl, rfl, .of (s := do eqGuard (if neg then .neq else .eql) t x y (a.eval x) (a.eval y); binOp (if neg then .neq else .eql) t (a.eval x) (a.eval y)) ⟨.bool (if neg then !(p == q) else (p == q)), ?_, .bool⟩ rfl⟩
          generalize a.eval x = xv at hxv
          generalize a.eval y = yv at hyv
          cases hxv; cases hyv
          exact run_eqb_sound hd
        · cases hx
      · rename_i fs
        unfold cstruct at hc
        split at hc
        · rename_i ks neg hks hneg
          have hop := negOf_spec hneg
          subst hop
          split at hc
          · rename_i hcond
            cases hc
            simp at hcond
            simp only [aop] at hx
            split at hx
            · rename_i p q e1 e2
              obtain ⟨hb, rfl, rfl⟩ := pureO_some hx
              simp only [Option.map_eq_some_iff] at hb
              obtain ⟨b, hb, rfl⟩ := hb
              rw [e1] at hxv
              rw [e2] at hyv
              exact ⟨rfl, rfl, .of (s := do eqGuard (if neg then .neq else .eql) t x y (a.eval x) (a.eval y); binOp (if neg then .neq else .eql) t (a.eval x) (a.eval y)) ⟨_, run_eqs_sound hd hks hcond.1 hcond.2 hxv hyv hb, .bool⟩ rfl⟩
            · cases hx
          · cases hc
        · cases hc
      · split at hc
        · rename_i k hk; exact hnil k hk hc
        · cases hc
    · cases hc
  case unOp op t x =>
    simp only [Option.map_eq_some_iff] at hc
    obtain ⟨x', hx', rfl⟩ := hc
    simp only [aop] at hx
    obtain ⟨hb, rfl, rfl⟩ := pureO_some hx
    exact ⟨rfl, rfl, .of (un_sound (hE hx') hb) rfl⟩
  case convert s d x =>
    simp only [Option.bind_eq_some_iff] at hc
    obtain ⟨x', hx', hc⟩ := hc
    unfold cconv at hc
    split at hc
    · rename_i k0 k h1 h2
      cases hc
      simp only [aop] at hx
      split at hx
      · rename_i k1 n e1
        obtain ⟨rfl, rfl, rfl⟩ := some3 hx
        have hv := hE hx'
        rw [e1] at hv
        refine ⟨rfl, rfl, .of (s := convert s d (a.eval x)) ⟨.int k (k.wrap n), ?_, .int⟩ rfl⟩
        generalize a.eval x = xv at hv
        cases hv
        simp [convert, run_underlying_D h1, run_underlying_D h2, Conv.intToInt, pure]
      · cases hx
    · rename_i h1 h2
      cases hc
      simp only [aop] at hx
      split at hx
      · rename_i n e1
        obtain ⟨rfl, rfl, rfl⟩ := some3 hx
        have hv := hE hx'
        rw [e1] at hv
        refine ⟨rfl, rfl, .of (s := convert s d (a.eval x)) ⟨a.eval x, ?_, hv⟩ rfl⟩
        generalize a.eval x = xv at hv
        cases hv
        simp [convert, run_underlying_D h1, run_underlying_D h2, pure]
      · cases hx
    · rename_i e h1 h2
      split at hc
      · rename_i h3
        cases hc
        simp only [aop] at hx
        split at hx
        · rename_i cs n hcs
          have hv := hE hx'
          split at hx
          · cases hx
          · rename_i hns
            obtain ⟨hb, rfl, rfl⟩ := pureO_some hx
            simp only [Option.map_eq_some_iff] at hb
            obtain ⟨bs, hb, rfl⟩ := hb
            rcases conts_sound hsim hv hcs with ⟨s', e1, _⟩ | ⟨hl, av, cap, e1, hle, hcell⟩
            · exact absurd e1 (hns s')
            · refine ⟨rfl, rfl, .of (s := convert s d (a.eval x)) ⟨.string ⟨bs.toArray⟩, ?_, .str⟩ rfl⟩
              rw [e1]
              exact run_cvs h1 h3 h2 hb (by omega) hcell
        · cases hx
      · cases hc
    · split at hc
      · cases hc; cases hst
      · cases hc
    · cases hc
  case slice t x lo hi mx =>
    cases mx with
    | some m => cases hc
    | none =>
      simp only at hc
      split at hc
      · rename_i x' lo' hi' h1 h2 h3
        split at hc
        · rename_i n e h4
          simp only [Option.map_eq_some_iff] at hc
          obtain ⟨⟨sz, ag⟩, h5, rfl⟩ := hc
          simp only [aop] at hx
          split at hx
          · rename_i d k off l h e1 e2
            obtain ⟨rfl, rfl, rfl⟩ := some3 hx
            have hv := hE h1
            rw [e1] at hv
            exact ⟨rfl, rfl, .of (run_slc_arr (defers := a.defers) h4 h5 henv h2 h3 hv e2) rfl⟩
          · cases hx
        · rename_i e h4
          simp only [Option.map_eq_some_iff] at hc
          obtain ⟨⟨sz, ag⟩, h5, rfl⟩ := hc
          simp only [aop] at hx
          obtain ⟨hb, rfl, rfl⟩ := pureO_some hx
          exact ⟨rfl, rfl, .of (run_slice_sound (defers := a.defers) h4 h5 henv h2 h3 (hE h1) hb) rfl⟩
        · rename_i h4
          cases hc
          simp only [aop] at hx
          split at hx
          · rename_i s' e1
            split at hx
            · rename_i l h e2
              obtain ⟨rfl, rfl, rfl⟩ := some3 hx
              have hv := hE h1
              rw [e1] at hv
              exact ⟨rfl, rfl, .of (run_sls (defers := a.defers) h4 henv h2 h3 hv e2) rfl⟩
            · cases hx
          · cases hx
        · cases hc
      · cases hc
  case fieldAddr s x f =>
    split at hc
    · rename_i fs x' h1 h2
      split at hc
      · rename_i fd h3
        split at hc
        · rename_i n ag h4
          split at hc
          · cases hc
          · rename_i hn
            cases hc
            simp only [aop] at hx
            obtain ⟨hr, rfl, rfl⟩ := pureO_some hx
            exact ⟨rfl, rfl, .of (run_fld_sound h1 h3 h4 hn (hE h2) hr) rfl⟩
        · cases hc
      · cases hc
    · cases hc
  case indexAddr t x i =>
    split at hc
    · rename_i x' i' h1 h2
      split at hc
      · rename_i n e h3
        simp only [Option.map_eq_some_iff] at hc
        obtain ⟨⟨sz, ag⟩, h4, rfl⟩ := hc
        simp only [aop] at hx
        split at hx
        · cases hx
        · rename_i ix hix
          split at hx
          · rename_i hlt
            obtain ⟨hr, rfl, rfl⟩ := pureO_some hx
            exact ⟨rfl, rfl, .of (run_ixa_arr h3 h4 (hE h1) (hE h2) hix hlt hr) rfl⟩
          · cases hx
      · rename_i e h3
        simp only [Option.map_eq_some_iff] at hc
        obtain ⟨⟨sz, ag⟩, h4, rfl⟩ := hc
        simp only [aop] at hx
        split at hx
        · cases hx
        · rename_i ix hix
          obtain ⟨hr, rfl, rfl⟩ := pureO_some hx
          exact ⟨rfl, rfl, .of (run_ixa_slice h3 h4 (hE h1) (hE h2) hix hr) rfl⟩
      · cases hc
    · cases hc
  case index t x i =>
    split at hc
    · rename_i x' i' h1 h2
      split at hc
      · rename_i h3
        cases hc
        simp only [aop] at hx
        split at hx
        · rename_i s ix e1 e2
          obtain ⟨hb, rfl, rfl⟩ := pureO_some hx
          simp only [Option.map_eq_some_iff] at hb
          obtain ⟨b, hb, rfl⟩ := hb
          have hv := hE h1
          rw [e1] at hv
          exact ⟨rfl, rfl, .of ⟨_, run_ixs h3 hv (hE h2) e2 hb, .int⟩ rfl⟩
        · cases hx
      · rename_i n e h3
        simp only [Option.map_eq_some_iff] at hc
        obtain ⟨⟨sz, ag⟩, h4, rfl⟩ := hc
        simp only [aop] at hx
        split at hx
        · rename_i cs ix e1 e2
          split at hx
          · rename_i hlt
            obtain ⟨hb, rfl, rfl⟩ := pureO_some hx
            have hv := hE h1
            rw [e1] at hv
            exact ⟨rfl, rfl, .of (run_ixv h3 h4 hv (hE h2) e2 hlt hb) rfl⟩
          · cases hx
        · cases hx
      · cases hc
    · cases hc
  case field t x f =>
    split at hc
    · rename_i fs x' h1 h2
      split at hc
      · rename_i fd h3
        simp only [Option.map_eq_some_iff] at hc
        obtain ⟨⟨n, ag⟩, h4, rfl⟩ := hc
        simp only [aop] at hx
        split at hx
        · rename_i cs e1
          obtain ⟨hb, rfl, rfl⟩ := pureO_some hx
          have hv := hE h2
          rw [e1] at hv
          exact ⟨rfl, rfl, .of (run_fdv h1 h3 h4 hv hb) rfl⟩
        · cases hx
      · cases hc
    · cases hc
  case extract x i =>
    simp only [Option.map_eq_some_iff] at hc
    obtain ⟨x', hx', rfl⟩ := hc
    simp only [aop] at hx
    split at hx
    · rename_i vs e1
      obtain ⟨hb, rfl, rfl⟩ := pureO_some hx
      have hv := hE hx'
      rw [e1] at hv
      exact ⟨rfl, rfl, .of (tup_get hv hb) rfl⟩
    · cases hx
  case call c =>
    unfold ccall at hc
    split at hc
    · cases hc
    · rename_i args hargs
      split at hc
      · cases hc; cases hst
      · cases hc; cases hst
      · cases hc
      · simp only [Option.map_eq_some_iff] at hc
        obtain ⟨_, _, rfl⟩ := hc; cases hst
      · rename_i b hcal
        obtain ⟨ha1, ha2⟩ := args_map (defers := a.defers) henv hargs
        have hex : execOp a.eval ⟨dst, .call c, type, pos, after, guard⟩ = builtin b c.argTypes type (c.args.map fun | .const _ => true | _ => false) (c.args.map a.eval) := by
          simp only [execOp, resolve, hcal]
          rfl
        simp only at hc
        split at hc
        · -- len
          rename_i x
          obtain ⟨xv, hxv, hv⟩ := ha2 0 (ev st.env x) rfl
          have hxv : (c.args.map a.eval)[0]? = some xv := hxv
          cases ht : c.argTypes[0]? with
          | none => rw [ht] at hc; simp at hc
          | some t =>
            rw [ht] at hc
            simp only [Option.bind_some] at hc
            have key : ∀ (k : LK) (d : TypeDesc), P.underlying t = some d → lkOf d = some k → ao = .len k x → O' = st.O ∧ S' = st.S ∧ StillOk P g st w lim a ⟨dst, .call c, type, pos, after, guard⟩ v := by
              rintro k d hd hk rfl
              simp only [aop] at hx
              obtain ⟨hb, rfl, rfl⟩ := pureO_some hx
              simp only [Option.map_eq_some_iff] at hb
              obtain ⟨n, hb, rfl⟩ := hb
              refine ⟨rfl, rfl, .of (s := Builtin.len_ c.argTypes type (c.args.map a.eval)) ⟨.int .i64 n, ?_, .int⟩ hex⟩
              exact run_len hd hk hsim hv hb ht hxv
            split at hc
            · rename_i hd; cases hc; exact key _ _ hd rfl rfl
            · rename_i hd; cases hc; exact key _ _ hd rfl rfl
            · rename_i hd; cases hc; exact key _ _ hd rfl rfl
            · cases hc
        · split at hc
          · unfold capp at hc; split at hc <;> first | (split at hc <;> cases hc; cases hst) | cases hc
          · unfold capp at hc; split at hc <;> first | (split at hc <;> cases hc; cases hst) | cases hc
          · cases hc
        · split at hc
          · split at hc <;> cases hc; cases hst
          · cases hc
        · split at hc
          · simp only [Option.map_eq_some_iff] at hc
            obtain ⟨_, _, rfl⟩ := hc; cases hst
          · cases hc
        · rename_i x xs
          cases hc
          simp only [aop] at hx
          obtain ⟨hb, rfl, rfl⟩ := pureO_some hx
          refine ⟨rfl, rfl, ?_⟩
          cases hl : c.args.toList with
          | nil => rw [hl] at hargs; simp [copds] at hargs
          | cons o os =>
            rw [hl] at hargs
            simp only [copds] at hargs
            split at hargs
            · rename_i x0 r0 h1 h2
              cases hargs
              refine .of (s := Builtin.max_ c.argTypes type (c.args.map a.eval)) ?_ hex
              obtain ⟨v', e1, e2⟩ := run_mx (P := P) (isMax := true) (defers := a.defers) henv os xs h2 _ v _ (hE h1) hb
              refine ⟨v', ?_, e2⟩
              unfold Builtin.max_
              have : (c.args.map a.eval).toList = a.eval o :: os.map a.eval := by simp [hl]
              rw [this]
              exact e1
            · cases hargs
        · rename_i x xs
          cases hc
          simp only [aop] at hx
          obtain ⟨hb, rfl, rfl⟩ := pureO_some hx
          refine ⟨rfl, rfl, ?_⟩
          cases hl : c.args.toList with
          | nil => rw [hl] at hargs; simp [copds] at hargs
          | cons o os =>
            rw [hl] at hargs
            simp only [copds] at hargs
            split at hargs
            · rename_i x0 r0 h1 h2
              cases hargs
              refine .of (s := Builtin.min_ c.argTypes type (c.args.map a.eval)) ?_ hex
              obtain ⟨v', e1, e2⟩ := run_mx (P := P) (isMax := false) (defers := a.defers) henv os xs h2 _ v _ (hE h1) hb
              refine ⟨v', ?_, e2⟩
              unfold Builtin.min_
              have : (c.args.map a.eval).toList = a.eval o :: os.map a.eval := by simp [hl]
              rw [this]
              exact e1
            · cases hargs
        · cases hc
  case makeSlice t l c =>
    split at hc
    · split at hc
      · cases hc; cases hst
      · cases hc
    · cases hc
  case makeMap t r =>
    cases r with
    | some r => cases hc
    | none =>
      simp only at hc
      split at hc
      · cases hc; cases hst
      · cases hc
  case lookup t m k ok =>
    split at hc
    · rename_i kt e m' k' h1 h2 h3
      split at hc
      · rename_i q z h4 h5
        cases hc
        obtain ⟨d, hd⟩ : ∃ d, P.underlying kt = some d := by
          cases hk : P.underlying kt with
          | none => rw [hk] at h4; cases h4
          | some d => exact ⟨d, rfl⟩
        rw [hd] at h4
        obtain ⟨zv, e1, hz1⟩ := zero1_sound (g := g) (O := st.O) (S := st.S) (w := w) (lim := lim) h5
        have hkv := hE h3
        have hmv := hE h2
        simp only [aop] at hx
        have fin : ∀ (r : AV) (rv : Value) (b : Bool), VR g st.O st.S w lim r rv → VR g st.O st.S w lim (if ok then AV.tup [r, .bool b] else r) (if ok then .tuple #[rv, .bool b] else rv) := by
          intro r rv b hr
          cases ok with
          | false => exact hr
          | true =>
            refine .tup (fun i => if i = 0 then rv else .bool b) rfl (fun i hi => ?_) (fun i a ha => ?_)
            · match i, hi with
              | 0, _ => rfl
              | 1, _ => rfl
            · match i, ha with
              | 0, ha => cases ha; exact hr
              | 1, ha => cases ha; exact .bool
              | i + 2, ha => simp at ha
        split at hx
        · rename_i dd i' em
          rw [em] at hmv
          split at hx
          · rename_i es hg
            generalize hmr : a.eval m = mv at hmv
            cases hmv with
            | map hdl hb hr =>
              rename_i r
              obtain ⟨ms, ck, q1, q2, q3⟩ := hsim.blk dd i' _ _ hr hg
              have hck := checkKey_D (w := w) hd h4 ms.isEmpty (a.eval k)
              have hgo : (getObj r).run P w = .ok (.map ms ck) w := by simp [getObj, Sem.run, q1]
              have hfk : ∀ x, Instr.findNow d (a.eval k) ms.toList 0 = some x → (Instr.findKey kt (a.eval k) ms.toList).run P w = .ok x w := by
                intro x hxx
                unfold Instr.findKey
                simp only [Sem.run_bind, run_underlying_D hd, Result.andThen_ok, hxx]
                rfl
              cases hf : findE q (ev st.env k') es with
              | none => rw [hf] at hx; cases hx
              | some fr =>
                rw [hf] at hx
                rcases findNow_D hd h4 hkv es ms.toList (by simpa using q2) (fun i a ha => by obtain ⟨_, _, m, p1, p2, p3⟩ := q3 i a ha; exact ⟨m, by simpa using p1, p2.lim (Nat.zero_le _), p3.lim (by omega)⟩) 0 fr hf with ⟨rfl, e2'⟩ | ⟨y, z', j, rfl, e2', e3', _⟩
                · simp only at hx
                  obtain ⟨rfl, rfl, rfl⟩ := some3 hx
                  refine ⟨rfl, rfl, .of (s := Instr.lookup t (a.eval m) (a.eval k) ok) ⟨_, ?_, fin z zv false hz1⟩ rfl⟩
                  rw [hmr]
                  unfold Instr.lookup
                  simp only [Sem.run_bind, run_underlying_D h1, Result.andThen_ok]
                  simp [hgo, hck, hfk _ e2', e1]
                · simp only at hx
                  obtain ⟨rfl, rfl, rfl⟩ := some3 hx
                  refine ⟨rfl, rfl, .of (s := Instr.lookup t (a.eval m) (a.eval k) ok) ⟨_, ?_, fin y z' true e3'⟩ rfl⟩
                  rw [hmr]
                  unfold Instr.lookup
                  simp only [Sem.run_bind, run_underlying_D h1, Result.andThen_ok]
                  simp [hgo, hck, hfk _ e2']
          · cases hx
        · rename_i em
          rw [em] at hmv
          generalize hmr : a.eval m = mv at hmv
          cases hmv
          split at hx
          · obtain ⟨rfl, rfl, rfl⟩ := some3 hx
            refine ⟨rfl, rfl, .of (s := Instr.lookup t (a.eval m) (a.eval k) ok) ⟨_, ?_, fin z zv false hz1⟩ rfl⟩
            rw [hmr]
            unfold Instr.lookup
            simp only [Sem.run_bind, run_underlying_D h1, Result.andThen_ok, Sem.run_pure, checkKey_D (w := w) hd h4]
            unfold Instr.findKey
            simp [run_underlying_D hd, Instr.findNow, e1]
          · cases hx
        · cases hx
      · cases hc
    · cases hc
  case mapUpdate t m k x =>
    split at hc
    · split at hc
      · cases hc; cases hst
      · cases hc
    · cases hc
  case makeFunc fn first caps =>
    cases fn <;> simp only at hc <;> try (cases hc; done)
    case method nm =>
      split at hc
      · rename_i x0 hf
        split at hc
        · rename_i hcap
          simp only [Option.map_eq_some_iff] at hc
          obtain ⟨x', hx', rfl⟩ := hc
          have h2 : caps = #[] := by simpa using hcap
          have h1 : first = #[x0] := by
            apply Array.ext'
            simpa using hf
          subst h1 h2
          have hv := hE hx'
          simp only [aop] at hx
          split at hx
          · rename_i ty av he
            obtain ⟨rfl, rfl, rfl⟩ := some3 hx
            rw [he] at hv
            generalize hav : a.eval x0 = u at hv
            cases hv with
            | iface hv' =>
              rename_i u'
              refine ⟨rfl, rfl, .func (.method nm) #[.iface ty u'] #[], ?_, .fm⟩
              have : (#[x0] : Array Operand).map a.eval = #[.iface ty u'] := by simp [hav]
              simp [execOp, Instr.makeFunc, pure, Sem.run, hav]
          · cases hx
        · cases hc
      · cases hc
    rename_i f
    split at hc
    · rename_i hf
      simp only [Option.map_eq_some_iff] at hc
      obtain ⟨cs, hcs, rfl⟩ := hc
      obtain ⟨rfl, rfl, rfl⟩ := some3 hx
      obtain ⟨ha1, ha2⟩ := args_map (defers := a.defers) henv hcs
      refine ⟨rfl, rfl, .func (.func f) #[] (caps.map a.eval), ?_, ?_⟩
      · have : first = #[] := by simpa using hf
        subst this
        simp [execOp, Instr.makeFunc, pure, Sem.run]
      · refine .func (fun i => (caps.map a.eval).getD i undef) ha1 (fun i hi => ?_) (fun i x hx => ?_)
        · have : i < (caps.map a.eval).size := by rw [show (caps.map a.eval).size = _ from ha1]; exact hi
          simp only [Array.getD_eq_getD_getElem?, Array.getElem?_eq_getElem this, Option.getD_some]
        · obtain ⟨v, hv1, hv2⟩ := ha2 i x hx
          simp only [Array.getD_eq_getD_getElem?]
          have : (caps.map a.eval)[i]? = some v := hv1
          rw [this]; exact hv2
    · cases hc
  case makeInterface t x =>
    split at hc
    · cases hc
    · cases hc
    · rename_i h1 h2
      simp only [Option.map_eq_some_iff] at hc
      obtain ⟨x', hx', rfl⟩ := hc
      obtain ⟨rfl, rfl, rfl⟩ := some3 hx
      refine ⟨rfl, rfl, .of (s := Instr.makeInterface t (a.eval x)) ⟨.iface t (a.eval x), ?_, .iface (hE hx')⟩ rfl⟩
      unfold Instr.makeInterface
      cases hu : P.underlying t with
      | none => exact absurd hu h2
      | some d =>
        simp only [Sem.run_bind, run_underlying_D hu, Result.andThen_ok]
        cases d <;> first | rfl | exact absurd hu (h1 _)
  case typeAssert x xt asserted ok =>
    split at hc
    · rename_i d x' z hd hx' hz
      cases hc
      simp only [aop] at hx
      obtain ⟨hb, rfl, rfl⟩ := pureO_some hx
      obtain ⟨zv, e1, hz1⟩ := zero1_sound (g := g) (O := st.O) (S := st.S) (w := w) (lim := lim) hz
      have hv := hE hx'
      refine ⟨rfl, rfl, .of (s := Instr.typeAssert (a.eval x) xt asserted ok) ?_ rfl⟩
      generalize a.eval x = u at hv
      have fin : ∀ (r : AV) (rv : Value) (b : Bool), VR g st.O st.S w lim r rv → VR g st.O st.S w lim (.tup [r, .bool b]) (.tuple #[rv, .bool b]) := by
        intro r rv b hr
        refine .tup (fun i => if i = 0 then rv else .bool b) rfl (fun i hi => ?_) (fun i a ha => ?_)
        · match i, hi with
          | 0, _ => rfl
          | 1, _ => rfl
        · match i, ha with
          | 0, ha => simp at ha; subst ha; exact hr
          | 1, ha => simp at ha; subst ha; exact .bool
      exact run_typeAssert_D hd e1 hz1 hv hb fin
    · cases hc

end
end Den
