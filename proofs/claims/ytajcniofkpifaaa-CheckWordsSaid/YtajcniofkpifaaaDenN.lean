/- Operations that make memory. -/
import Derived.Test.YtajcniofkpifaaaDenM
import Derived.IntWalk
set_option linter.unusedSectionVars false
set_option linter.unusedVariables false
set_option linter.unusedSimpArgs false
namespace Den
open Go
variable [GTab]

section
variable {P : Program} {g : Gh} {O : List ABlk} {S : List (List ABlk)} {w : World} {lim : Nat}

def pushW (w : World) (o : Obj) : World := { w with heap := w.heap.push o }

/-- What an operation that makes a block comes to, whenever it is carried out. -/
def NewOk (P : Program) (g : Gh) (O : List ABlk) (S : List (List ABlk)) (st : St) (w : World) (a : Act) (o : Oper) (v : AV) (O' : List ABlk) (S' : List (List ABlk)) : Prop :=
  (∃ (obj : Bool) (b : ABlk) (x : Obj) (mk : Nat → Value), O' = newO st.O obj b ∧ S' = newS st.S obj b ∧
    (∀ sz cs, b = .buf sz cs → True) ∧
    (execOp a.eval o).run P w = .ok (.value (mk w.heap.size)) (pushW w x) ∧ NewR g O S w (newD st.S obj) b x ∧
    ∀ (g' : Gh) (O'' : List ABlk) (S'' : List (List ABlk)) (w'' : World) (c lim' : Nat), Sim g' O'' S'' w'' → newD st.S obj < lim' → g'.ρ (newD st.S obj) (newK st.O st.S obj) = .at c →
      gm O'' S'' (newD st.S obj) (newK st.O st.S obj) = some b → VR g' O'' S'' w'' lim' v (mk c)) ∨
  (O' = st.O ∧ S' = st.S ∧ ∃ (x : Obj) (n : Nat) (v' : Value), (execOp a.eval o).run P w = .ok (.value v') (pushW w x) ∧
    VR (g.addImm w.heap.size n) O S (pushW w x) 0 v v')

theorem NewR_arr {d : Nat} {cs : List AV} {vs : Array Value} {ty : TypeId} (h : CellsR g O S w (d + 1) cs vs) : NewR g O S w d (.arr cs) (.cells vs ty) :=
  ⟨vs, ty, (0, 0), rfl, fun i _ => by simp, h.1, h.2⟩
theorem NewR_buf {d sz : Nat} {cs : List AV} {vs : Array Value} {ty : TypeId} (h : CellsR g O S w (d + 1) cs vs) : NewR g O S w d (.buf sz cs) (.cells vs ty) :=
  ⟨vs, ty, (0, 0), rfl, fun i _ => by simp, by rw [h.1]; exact Nat.le_refl _, h.2⟩

theorem CellsR.limTo {l l' : Nat} (hl : l ≤ l') {cs : List AV} {vs : Array Value} (h : CellsR g O S w l cs vs) : CellsR g O S w l' cs vs :=
  ⟨h.1, fun i a ha => ⟨(h.2 i a ha).1, let ⟨v, p, q⟩ := (h.2 i a ha).2; ⟨v, p, q.lim hl⟩⟩⟩

theorem repCells_length (z : List AV) : ∀ n, (repCells z n).length = n * z.length
  | 0 => by simp [repCells]
  | n + 1 => by simp [repCells, repCells_length z n, Nat.succ_mul]; omega

theorem repCells_get (z : List AV) : ∀ (n i : Nat), i < n * z.length → (repCells z n)[i]? = z[i % z.length]?
  | 0, i, h => by simp at h
  | n + 1, i, h => by
    simp only [repCells]
    rw [Nat.succ_mul] at h
    by_cases hi : i < z.length
    · rw [List.getElem?_append_left hi, Nat.mod_eq_of_lt hi]
    · rw [List.getElem?_append_right (by omega), repCells_get z n (i - z.length) (by omega)]
      congr 1
      conv => rhs; rw [show i = i - z.length + z.length by omega]
      rw [Nat.add_mod_right]

theorem CellsR.rep {z : List AV} {zv : Array Value} (h : CellsR g O S w lim z zv) (n : Nat) :
    CellsR g O S w lim (repCells z n) ((Array.range (n * z.length)).map (zv[· % zv.size]!)) := by
  refine ⟨by simp [repCells_length], fun i a ha => ?_⟩
  have hi : i < n * z.length := by
    rcases Nat.lt_or_ge i (n * z.length) with h' | h'
    · exact h'
    · rw [List.getElem?_eq_none (by rw [repCells_length]; exact h')] at ha; cases ha
  rw [repCells_get z n i hi] at ha
  obtain ⟨p, v, q, r⟩ := h.2 _ a ha
  refine ⟨p, v, ?_, r⟩
  rw [Array.getElem?_map]
  have : (Array.range (n * z.length))[i]? = some i := by simp [hi]
  rw [this, h.1]
  simp only [Option.map_some]
  congr 1
  rw [getElem!_def, q]

theorem VR.low {x : AV} {v : Value} (h : VR g O S w lim x v) {l : Nat} (hl : x.low l = true) : VR g O S w l x v := by
  have leaf : ∀ {y : AV} {u : Value}, VR g O S w lim y u → (match y with
      | .ref d _ _ | .sref d _ _ _ _ | .bptr d _ _ _ | .bref d _ _ _ _ | .map d _ => decide (d < l)
      | .agg _ | .tup _ | .func _ _ => false
      | .iface _ (.ref d _ _) => decide (d < l)
      | .iface _ _ => false
      | _ => true) = true → VR g O S w l y u := by
    intro y u h hl
    cases h with
    | undef => exact .undef
    | int => exact .int
    | bool => exact .bool
    | str => exact .str
    | nilp => exact .nilp
    | nils => exact .nils
    | nili => exact .nili
    | nilf => exact .nilf
    | nilm => exact .nilm
    | emp => exact .emp
    | fm => exact .fm
    | isle => exact .isle
    | isl f hlen hc hi hv h1 => exact .isl f hlen hc hi hv h1
    | iptr f hc hi hv h1 => exact .iptr f hc hi hv h1
    | agg => simp at hl
    | tup => simp at hl
    | func => simp at hl
    | iface h =>
      cases h with
      | ref hd hb hr => exact .iface (.ref (by simpa using hl) hb hr)
      | _ => simp at hl
    | ref hd hb hr => exact .ref (by simpa using hl) hb hr
    | sref hd hb hr hlc ha => exact .sref (by simpa using hl) hb hr hlc ha
    | bref hd hlc ha hb => exact .bref (by simpa using hl) hlc ha hb
    | bptr hd hb => exact .bptr (by simpa using hl) hb
    | map hd hb hr => exact .map (by simpa using hl) hb hr
  cases x with
  | agg cs =>
    cases h with
    | agg f hs hf hv h1 =>
      simp only [AV.low, List.all_eq_true] at hl
      exact .agg f hs hf (fun i a ha => leaf (hv i a ha) (hl a (List.mem_of_getElem? ha))) h1
  | iface t y =>
    refine leaf h ?_
    cases y <;> simp [AV.low] at hl ⊢ <;> exact hl
  | tup vs => simp [AV.low] at hl
  | func f cs => simp [AV.low] at hl
  | undef => exact .undef
  | int k n => cases h; exact .int
  | bool b => cases h; exact .bool
  | str s => cases h; exact .str
  | nilp => cases h; exact .nilp
  | nils => cases h; exact .nils
  | nili => cases h; exact .nili
  | nilf => cases h; exact .nilf
  | nilm => cases h; exact .nilm
  | emp => cases h; exact .emp
  | fm t n => cases h; exact .fm
  | isl c n => exact leaf h rfl
  | iptr c => exact leaf h rfl
  | ref d k o => exact leaf h hl
  | sref d k o n c => exact leaf h hl
  | bptr d k o t => exact leaf h hl
  | bref d k o n t => exact leaf h hl
  | map d k => exact leaf h hl

theorem CellsR.low {cs : List AV} {vs : Array Value} (h : CellsR g O S w lim cs vs) {l : Nat} (hl : cs.all (AV.low l) = true) : CellsR g O S w l cs vs := by
  refine ⟨h.1, fun i a ha => ⟨(h.2 i a ha).1, ?_⟩⟩
  obtain ⟨v, p, q⟩ := (h.2 i a ha).2
  exact ⟨v, p, q.low (List.all_eq_true.1 hl a (List.mem_of_getElem? ha))⟩

theorem cells_low {x : AV} {l : Nat} (h : x.low l = true) (ho : x.okv = true) : x.cells.all (AV.low l) = true := by
  cases x with
  | agg cs =>
    simp only [AV.low, List.all_eq_true] at h
    simp only [AV.cells, List.all_eq_true]
    intro y hy
    have := h y hy
    cases y <;> simp [AV.low] at this ⊢ <;> try exact this
    rename_i t z
    cases z <;> simp at this ⊢ <;> exact this
  | _ => simp [AV.cells, h]

theorem run_newVar {t : TypeId} {v : Value} : (newVar t v).run P w = .ok ⟨w.heap.size, 0, none⟩ (pushW w (.cells v.cells t)) := by
  simp [newVar, newRow, newObj, Sem.run, pure, pushW]

theorem run_newRow {t : TypeId} {c : Array Value} : (newRow t c).run P w = .ok ⟨w.heap.size, 0, none⟩ (pushW w (.cells c t)) := by
  simp [newRow, newObj, Sem.run, pure, pushW]

theorem sparts_spec {sz : Nat} : ∀ (l : List (Nat × Operand)) (l' : List (Nat × Opd)), sparts l = some l' →
    cparts P (fun i => some (i * sz, sz)) l = some (l'.map fun (i, x) => (i * sz, sz, x))
  | [], l', h => by simp [sparts] at h; subst h; rfl
  | (i, x) :: r, l', h => by
    simp only [sparts] at h
    split at h
    · rename_i x' r' h1 h2
      cases h
      simp [cparts, h1, sparts_spec r r' h2]
    · cases h

theorem cell_pushW (w : World) (vs : Array Value) (ty : TypeId) (fr : Nat × Nat) (i : Nat) : (pushW w (.cells vs ty fr)).cell? ⟨w.heap.size, i, none⟩ = vs[i]? := by
  have : (pushW w (.cells vs ty fr)).heap[w.heap.size]? = some (.cells vs ty fr) := by simp only [pushW]; rw [Array.getElem?_push]; simp
  simp only [World.cell?, this]
  rfl

theorem imm_slice {vs : Array Value} {ty : TypeId} {cs : List AV} {len : Nat} (hsim : Sim g O S w) (h : CellsR g O S w 0 cs vs) :
    VR (g.addImm w.heap.size cs.length) O S (pushW w (.cells vs ty)) 0 (.isl cs len) (.slice (some ⟨w.heap.size, 0, none⟩) len len) := by
  have hm := Mon.push_imm hsim (.cells vs ty) cs.length
  refine .isl (fun i => vs.getD i undef) (Nat.le_refl _) (fun i hi => ?_) (fun _ => .inr ⟨cs.length, by simp [Gh.addImm], by omega⟩) (fun i a ha => ?_) (fun i a ha => (h.2 i a ha).1)
  · have : i < vs.size := by rw [h.1]; exact hi
    rw [Nat.zero_add, cell_pushW]
    simp [this]
  · obtain ⟨_, v, hv, hr⟩ := h.2 i a ha
    have : vs.getD i undef = v := by simp [Array.getD_eq_getD_getElem?, hv]
    rw [this]; exact hr.mono hm

theorem range0_map (f : Nat → Value) : (Array.range 0).map f = #[] := Array.eq_empty_of_size_eq_zero (by simp)

theorem buildA_length {env : List AV} : ∀ (ps : List (Nat × Nat × Opd)) (cs r : List AV), buildA env cs ps = some r → r.length = cs.length
  | [], cs, r, h => by simp [buildA] at h; rw [h]
  | (off, sz, x) :: ps, cs, r, h => by
    simp only [buildA] at h
    split at h
    · rename_i hc
      rw [buildA_length ps _ r h, putAt_length (by omega)]
    · cases h

theorem run_makeSlice {t e : TypeId} {i : TypeInfo} {zv : Value} {k1 k2 : IntKind} {m1 m2 : Int} {ln : Nat} (h1 : P.underlying t = some (.slice e)) (h5 : P.info? e = some i) (e1 : (zeroValue e).run P w = .ok zv w)
    (p1 : 0 ≤ m1) (p2 : m1.toNat = ln) (p3 : 0 ≤ m2) (p4 : m2.toNat = ln) (hcap : ln * i.bytes ≤ 2 ^ 47) (hln : ln < 2 ^ 62) :
    (Instr.makeSlice t (.int k1 m1) (.int k2 m2)).run P w = .ok (.slice (some ⟨w.heap.size, 0, none⟩) ln ln) (pushW w (.cells ((Array.range (ln * i.size)).map (zv.cells[· % zv.cells.size]!)) e)) := by
  have hm1 : m1 = (ln : Int) := by omega
  have hm2 : m2 = (ln : Int) := by omega
  subst hm1 hm2
  have hw : IntKind.i64.wrap (ln : Int) = (ln : Int) := IntWalk.i64_in _ (by omega)
  unfold Instr.makeSlice
  simp only [Sem.run_bind, run_underlying_D h1, Result.andThen_ok, asInt, run_asIntOf, run_typeInfo_D h5, Sem.run_pure, hw]
  have hb : (i.bytes : Int) * (ln : Int) ≤ 2 ^ 47 := by
    have : ((ln * i.bytes : Nat) : Int) ≤ 2 ^ 47 := by exact_mod_cast hcap
    rw [Int.natCast_mul] at this
    rw [Int.mul_comm]; exact this
  have htl : (decide ((ln : Int) < 0) || decide ((i.bytes : Int) * (ln : Int) > 2 ^ 48)) = false := by
    simp; omega
  simp only [htl, Bool.false_or]
  have h2 : (decide ((ln : Int) < 0) || decide ((ln : Int) > (ln : Int))) = false := by simp
  rw [h2]
  simp only [Bool.false_eq_true, if_false, Int.toNat_natCast]
  have har : (askRoom (ln * i.bytes)).run P w = .ok () w := by
    unfold askRoom
    rw [if_neg (by simp only [roomBytes]; omega)]; rfl
  by_cases h0 : ln * i.size = 0
  · simp [har, run_sizeOf_D h5, h0, run_newRow, range0_map]
  · simp [har, run_sizeOf_D h5, h0, run_newRow, e1]

theorem new_sound {fc : FC} {o : Oper} {ao : AO} {st : St} {a : Act} {v : AV} {O' : List ABlk} {S' : List (List ABlk)} (hc : cop P fc o = some ao) (hn : ao.cls = .new)
    (hx : aop st ao = some (v, O', S')) (hsim : Sim g O S w) (henv : EnvR g O S w lim st.env a.tmps) : NewOk P g O S st w a o v O' S' := by
  have hE : ∀ {x : Operand} {x' : Opd}, copd x = some x' → VR g O S w lim (ev st.env x') (a.eval x) := fun h => ev_sound (defers := a.defers) henv h
  have hcl := cop_cls hc
  obtain ⟨dst, op, type, pos, after, guard⟩ := o
  cases op <;> simp only [cop] at hc <;> simp only at hcl <;> try (cases hc; done)
  case alloc t =>
    simp only [Option.map_eq_some_iff] at hc
    obtain ⟨z, hz, rfl⟩ := hc
    simp only [aop] at hx
    obtain ⟨rfl, rfl, rfl⟩ := some3 hx
    generalize fc.isObj dst = obj
    obtain ⟨zv, i, e1, e2, e3, e4⟩ := run_zero_D (P := P) hz g O S w 0
    refine .inl ⟨obj, .arr z, .cells zv.cells t, fun c => .pointer (some ⟨c, 0, none⟩), rfl, rfl, fun _ _ _ => trivial, ?_, NewR_arr (e4.limTo (Nat.zero_le _)), ?_⟩
    · simp only [execOp, Instr.alloc, Sem.run_bind, e1, Result.andThen_ok, run_newVar]
      rfl
    · intro g' O'' S'' w'' c lim' _ hd hr hg
      exact .ref hd ⟨_, hg⟩ hr
  case box t x =>
    split at hc
    · rename_i n ag x' h1 h2
      cases hc
      simp only [aop] at hx
      split at hx
      · rename_i hcond
        obtain ⟨rfl, rfl, rfl⟩ := some3 hx
        generalize fc.isObj dst = obj at hcond ⊢
        have hcell := cells_of (hE h2) hcond.1
        refine .inl ⟨obj, .arr (ev st.env x').cells, .cells (a.eval x).cells t, fun c => .pointer (some ⟨c, 0, none⟩), rfl, rfl, fun _ _ _ => trivial, ?_, NewR_arr (hcell.low (cells_low hcond.2.2 hcond.1)), ?_⟩
        · simp only [execOp, Instr.box, Sem.run_bind, run_newVar, Result.andThen_ok]
          rfl
        · intro g' O'' S'' w'' c lim' _ hd hr hg
          exact .ref hd ⟨_, hg⟩ hr
      · cases hx
    · cases hc
  case buildSlice t len parts =>
    split at hc
    · rename_i e h1
      split at hc
      · rename_i z n ag ps h2 h3 h4
        split at hc
        · rename_i hcond
          cases hc
          obtain ⟨i, d, t1, t2, rfl, rfl⟩ := tyOf_spec h3
          simp only [aop, Option.bind_eq_some_iff] at hx
          obtain ⟨cs, hb, hx⟩ := hx
          obtain ⟨zv, i', e1, e2, e3, e4⟩ := run_zero_D (P := P) h2 g O S w lim
          rw [t1] at e2; cases e2
          have hrep := e4.rep len
          rw [e3] at hrep
          obtain ⟨rv, q1, q2⟩ := fill_sound (P := P) (defers := a.defers) (fun j => some (j * i.size, i.size)) henv parts.toList _ (sparts_spec parts.toList ps h4) _ _ hrep cs hb
          have hrun : (execOp a.eval ⟨dst, .buildSlice t len parts, type, pos, after, guard⟩).run P w = .ok (.value (.slice (some ⟨w.heap.size, 0, none⟩) len len)) (pushW w (.cells rv e)) := by
            simp only [execOp, Sem.run_bind]
            have : (Instr.buildSlice t len (parts.map fun (i, x) => (i, a.eval x))).run P w = .ok (.slice (some ⟨w.heap.size, 0, none⟩) len len) (pushW w (.cells rv e)) := by
              unfold Instr.buildSlice
              simp only [Sem.run_bind, run_underlying_D h1, Result.andThen_ok, run_sizeOf_D t1]
              rw [if_neg (by omega)]
              by_cases h0 : len * i.size = 0
              · have hr0 := range0_map
                rw [h0, hr0] at q1
                have q1' : Instr.fill (fun j => some (j * i.size, i.size)) #[] (parts.map fun (i, x) => (i, a.eval x)).toList = some rv := by simpa using q1
                simp only [h0, if_true, Sem.run_bind, Sem.run_pure, Result.andThen_ok, hr0, q1', run_newRow]
              · have q1' : Instr.fill (fun j => some (j * i.size, i.size)) ((Array.range (len * i.size)).map (zv.cells[· % zv.cells.size]!)) (parts.map fun (i, x) => (i, a.eval x)).toList = some rv := by simpa using q1
                simp only [h0, if_false, Sem.run_bind, e1, Result.andThen_ok, Sem.run_pure, q1', run_newRow]
            rw [this]
            rfl
          split at hx
          · -- a slice that is grown later
            split at hx
            · rename_i hlow
              obtain ⟨rfl, rfl, rfl⟩ := some3 hx
              generalize fc.isObj dst = obj at hlow ⊢
              refine .inl ⟨obj, .buf i.size cs, .cells rv e, fun c => .slice (some ⟨c, 0, none⟩) len len, rfl, rfl, fun _ _ _ => trivial, hrun, NewR_buf (q2.low hlow), ?_⟩
              intro g' O'' S'' w'' c lim' hs' hd hr hg
              refine .bref hd (Nat.le_refl _) (fun _ => rfl) ⟨i.size, cs, hg, Nat.le_refl _, by rw [hr]; simp, fun _ => ?_⟩
              rw [hr]
              refine ⟨.inr rfl, fun _ => ?_⟩
              obtain ⟨vs, ⟨ty, fr, p1, p2⟩, p3, p4⟩ := hs'.blk _ _ _ _ hr hg
              refine ⟨vs, ty, fr, p1, ?_⟩
              have hl1 : cs.length = len * i.size := by rw [buildA_length _ _ _ hb, repCells_length, e3]
              omega
            · cases hx
          · split at hx
            · rename_i h0
              subst h0
              obtain ⟨rfl, rfl, rfl⟩ := some3 hx
              exact .inr ⟨rfl, rfl, _, 0, _, hrun, .emp⟩
            · split at hx
              · rename_i hlow
                obtain ⟨rfl, rfl, rfl⟩ := some3 hx
                exact .inr ⟨rfl, rfl, _, cs.length, _, hrun, imm_slice hsim (q2.low hlow)⟩
              · cases hx
        · cases hc
      · cases hc
    · cases hc
  case makeSlice t l c =>
    split at hc
    · rename_i e l' c' h1 h2 h3
      split at hc
      · rename_i z i h4 h5
        cases hc
        simp only [aop] at hx
        split at hx
        · rename_i ln cn hl hcn
          split at hx
          · rename_i hcond
            obtain ⟨rfl, hcap⟩ := hcond
            obtain ⟨rfl, rfl, rfl⟩ := some3 hx
            generalize fc.isObj dst = obj
            obtain ⟨zv, i', e1, e2, e3, e4⟩ := run_zero_D (P := P) h4 g O S w 0
            rw [h5] at e2; cases e2
            obtain ⟨k1, m1, v1, p1, p2⟩ := nth_spec hl (hE h2)
            obtain ⟨k2, m2, p3, p4⟩ := nth_spec hcn (hE h3)
            refine .inl ⟨obj, .buf i.size (repCells z ln), .cells ((Array.range (ln * i.size)).map (zv.cells[· % zv.cells.size]!)) e, fun c => .slice (some ⟨c, 0, none⟩) ln ln, rfl, rfl, fun _ _ _ => trivial, ?_, ?_, ?_⟩
            · simp only [execOp, Sem.run_bind, v1, p3]
              rw [run_makeSlice h1 h5 e1 p1 p2 p4.1 p4.2 hcap.1 hcap.2]
              rfl
            · have := e4.rep ln
              rw [e3] at this
              exact NewR_buf (this.limTo (Nat.zero_le _))
            · intro g' O'' S'' w'' c lim' hs' hd hr hg
              refine .bref hd (Nat.le_refl _) (fun _ => rfl) ⟨i.size, _, hg, by rw [repCells_length, e3]; exact Nat.le_refl _, by rw [hr]; simp, fun _ => ?_⟩
              rw [hr]
              refine ⟨.inr rfl, fun _ => ?_⟩
              obtain ⟨vs, ⟨ty, fr, q1, q2⟩, q3, q4⟩ := hs'.blk _ _ _ _ hr hg
              refine ⟨vs, ty, fr, q1, ?_⟩
              rw [repCells_length, e3] at q3
              exact q3
          · cases hx
        · cases hx
      · cases hc
    · cases hc
  case makeMap t r =>
    cases r with
    | some r => cases hc
    | none =>
      simp only at hc
      split at hc
      · cases hc
        simp only [aop] at hx
        obtain ⟨rfl, rfl, rfl⟩ := some3 hx
        generalize fc.isObj dst = obj
        refine .inl ⟨obj, .map [], .map #[] 0, fun c => .map (some c), rfl, rfl, fun _ _ _ => trivial, ?_, ⟨0, rfl, rfl⟩, ?_⟩
        · simp only [execOp, Instr.makeMap, newObj, Sem.run_bind, Sem.run, pure]
          rfl
        · intro g' O'' S'' w'' c lim' _ hd hr hg
          exact .map hd ⟨_, hg⟩ hr
      · cases hc
  case convert => rcases hcl with h | ⟨_, h⟩ <;> rw [h] at hn <;> cases hn
  case store => obtain ⟨_, _, _, h⟩ := hcl; rw [h] at hn; cases hn
  case mapUpdate => obtain ⟨_, _, _, _, h⟩ := hcl; rw [h] at hn; cases hn
  case call => rcases hcl with h | h | ⟨_, _, _, _, _, h⟩ | ⟨_, _, _, h⟩ | ⟨_, _, h⟩ <;> rw [h] at hn <;> cases hn
  all_goals (rw [hcl] at hn; cases hn)

end
end Den
