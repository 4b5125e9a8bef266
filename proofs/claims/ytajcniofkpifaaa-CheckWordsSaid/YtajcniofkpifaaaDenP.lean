/- Operations that change memory. -/
import Derived.Test.YtajcniofkpifaaaDenO
set_option linter.unusedSectionVars false
set_option linter.unusedVariables false
set_option linter.unusedSimpArgs false
namespace Den
open Go
variable [GTab]

section
variable {P : Program} {g : Gh} {w : World} {lim : Nat}

/-- What an operation that changes memory comes to. -/
def EffOk (P : Program) (g : Gh) (st : St) (w : World) (lim : Nat) (a : Act) (o : Oper) (v : AV) (O' : List ABlk) (S' : List (List ABlk)) : Prop :=
  ∃ g' w' nx v', (execOp a.eval o).run P w = .ok nx w' ∧ (nx = .value v' ∨ nx = .skip ∧ v' = undef) ∧ Sim g' O' S' w' ∧ Evo g st.O st.S w g' O' S' w' ∧ VR g' O' S' w' lim v v'

theorem run_storeVar_D {t : TypeId} {i : TypeInfo} (hi : P.info? t = some i) {v : Value} {a : Addr} {w' : World} (hs : v.cells.size = i.size) (h : (storeCells a v.cells.toList).run P w = .ok () w') :
    (storeVar t a v).run P w = .ok () w' := by
  unfold storeVar
  simp only [Sem.run_bind, run_sizeOf_D hi, Result.andThen_ok]
  rw [if_neg (by simp [hs])]
  simp [h]

theorem cellsR_list {g : Gh} {O S w} {lim d : Nat} {cs : List AV} {vs : Array Value} (h : CellsR g O S w lim cs vs) (hl : cs.all (AV.low (d + 1)) = true) :
    ∀ (i : Nat) (a : AV), cs[i]? = some a → a.one = true ∧ ∃ v, vs.toList[i]? = some v ∧ VR g O S w (d + 1) a v := by
  intro i a ha
  obtain ⟨p, v, q, r⟩ := (h.low hl).2 i a ha
  exact ⟨p, v, by simpa using q, r⟩

theorem store_sound {st : St} {t : TypeId} {sz : Nat} {ag : Bool} (ht : tyOf P t = some (sz, ag)) {x y : AV} {xv yv : Value} (hsim : Sim g st.O st.S w) (hx : VR g st.O st.S w lim x xv) (hy : VR g st.O st.S w lim y yv)
    {O' : List ABlk} {S' : List (List ABlk)} (h : ast st.O st.S sz x y = some (O', S')) :
    ∃ w', (Instr.storeAt t xv yv).run P w = .ok () w' ∧ Sim g O' S' w' ∧ Evo g st.O st.S w g O' S' w' := by
  obtain ⟨i, dd, h1, h2, rfl, rfl⟩ := tyOf_spec ht
  unfold ast at h
  split at h
  · rename_i d k off
    cases hx with
    | ref hd hb hr =>
      rename_i c
      split at h
      · rename_i cs hg
        split at h
        · rename_i hcond
          cases h
          obtain ⟨c1, c2, c3, c4⟩ := hcond
          have hcell := cells_of hy c1
          obtain ⟨w', e1, e2, e3⟩ := hsim.write P hr hg (off := off) (new := y.cells) (vs := yv.cells.toList) (by omega) (by simp [hcell.1]) (cellsR_list hcell (cells_low c4 c1))
          exact ⟨w', by simp [Instr.storeAt, Instr.sureAddr, pure, Sem.run, run_storeVar_D h1 (hcell.1.trans c2) e1], e2, e3⟩
        · cases h
      · cases h
  · rename_i d k off tot
    cases hx with
    | bptr hd hb =>
      rename_i a
      obtain ⟨sz', cs, hg, ht', hu, hm⟩ := hb
      rw [hg] at h
      simp only at h
      split at h
      · rename_i hcond
        cases h
        obtain ⟨c0, c1, c2, c3, c4⟩ := hcond
        have hcell := cells_of hy c1
        have hm := hm c0
        cases hr : g.ρ d k with
        | un => exact absurd hr hu
        | nil => rw [hr] at hm; cases hm.2
        | «at» c =>
          rw [hr] at hm
          rcases hm.1 with h0 | h0
          · cases h0
          · cases h0
            obtain ⟨w', e1, e2, e3⟩ := hsim.writeBuf P hr hg (off := off) (new := y.cells) (vs := yv.cells.toList) (by omega) (by simp [hcell.1]) (cellsR_list hcell (cells_low c4 c1))
            exact ⟨w', by simp [Instr.storeAt, Instr.sureAddr, pure, Sem.run, run_storeVar_D h1 (hcell.1.trans c2) e1], e2, e3⟩
      · cases h
  · cases h


theorem run_firstCells {O S} (hsim : Sim g O S w) {sz : Nat} {x : AV} {v : Value} (hx : VR g O S w lim x v) {cs : List AV} {n : Nat} (h : conts O S sz x = some (cs, n)) :
    ∃ arr, (Builtin.lenOf v).run P w = .ok n w ∧ (Builtin.firstCells sz n v).run P w = .ok arr w ∧ CellsR g O S w lim cs arr ∧ cs.length = n * sz := by
  rcases conts_sound hsim hx h with ⟨s, rfl, rfl, rfl, rfl⟩ | ⟨hl, a, cap, rfl, hle, hcell⟩
  · cases hx
    refine ⟨(s.map fun b => Value.int .u8 b.toNat).toArray, ?_, ?_, ⟨by simp, fun i y hy => ?_⟩, by simp⟩
    · simp [Builtin.lenOf, pure, ByteArray.size]
    · simp only [Builtin.firstCells, Sem.run_pure]
      have : (ByteArray.mk s.toArray).extract 0 s.length = ⟨s.toArray⟩ := by
        apply ByteArray.ext
        simp [ByteArray.data_extract]
      rw [this]
      simp
    · rw [List.getElem?_map] at hy
      cases hs : s[i]? with
      | none => rw [hs] at hy; cases hy
      | some b =>
        rw [hs] at hy; cases hy
        exact ⟨rfl, .int .u8 b.toNat, by simp [hs], .int⟩
  · cases a with
    | none =>
      have : cs = [] := by
        cases cs with
        | nil => rfl
        | cons y r => obtain ⟨_, _, h0, _⟩ := hcell 0 y rfl; cases h0
      subst this
      exact ⟨#[], rfl, rfl, ⟨rfl, fun i y hy => by simp at hy⟩, hl⟩
    | some ad =>
      by_cases hz : cs = []
      · subst hz
        have hn0 : n * sz = 0 := by simpa using hl.symm
        refine ⟨#[], rfl, ?_, ⟨rfl, fun i y hy => by simp at hy⟩, hl⟩
        simp only [Builtin.firstCells, hn0]; rfl
      · obtain ⟨c, off, hadr⟩ : ∃ c off, ad = ⟨c, off, none⟩ := by
          cases cs with
          | nil => exact absurd rfl hz
          | cons y r => obtain ⟨c, off, h0, _⟩ := hcell 0 y rfl; exact ⟨c, off, by simpa using h0⟩
        subst hadr
        let f : Nat → Value := fun j => (w.cell? ⟨c, off + j, none⟩).getD undef
        have hval : ∀ j y, cs[j]? = some y → y.one = true ∧ w.cell? ⟨c, off + j, none⟩ = some (f j) ∧ VR g O S w lim y (f j) := fun j y hy => by
          obtain ⟨c', off', h0, h1, z, h2, h3⟩ := hcell j y hy
          simp at h0; obtain ⟨rfl, rfl⟩ := h0
          exact ⟨h1, by simp [f, h2], by simpa [f, h2] using h3⟩
        have hf : ∀ j, j < n * sz → w.cell? ((⟨c, off, none⟩ : Addr).add j) = some (f j) := fun j hj => by
          rw [addr_add]
          exact (hval j _ (List.getElem?_eq_getElem (by omega))).2.1
        refine ⟨((List.range (n * sz)).map f).toArray, rfl, ?_, ⟨by simp [hl], fun i y hy => ?_⟩, hl⟩
        · simp only [Builtin.firstCells]
          exact run_loadCells w _ (n * sz) f hf
        · have hi : i < n * sz := by
            rcases Nat.lt_or_ge i cs.length with h' | h'
            · omega
            · rw [List.getElem?_eq_none h'] at hy; cases hy
          exact ⟨(hval i y hy).1, f i, by simp [hi], (hval i y hy).2.2⟩

/-- What is known where a slice is grown. -/
structure AppT (P : Program) (w : World) (ts : Array TypeId) (e : TypeId) (i : TypeInfo) (zv : Value) : Prop where
  t0 : ∃ t, ts[0]? = some t ∧ P.underlying t = some (.slice e)
  t1 : ∃ t d, ts[1]? = some t ∧ P.underlying t = some d ∧ (match d with | .slice _ | .string => True | _ => False)
  info : P.info? e = some i
  zero : ∀ w, (zeroValue e).run P w = .ok zv w

theorem growBy_le (newLen : Nat) (h : 256 ≤ newLen) : ∀ (r c : Nat), c < 2 * newLen → Builtin.growBy newLen r c ≤ 2 * newLen
  | 0, c, hc => by simp only [Builtin.growBy]; omega
  | r + 1, c, hc => by
    simp only [Builtin.growBy]
    split
    · omega
    · rename_i h2
      exact growBy_le newLen h r _ (by omega)

theorem nextslicecap_le {newLen oldCap : Nat} (h : oldCap < newLen) : Builtin.nextslicecap newLen oldCap ≤ 2 * newLen := by
  unfold Builtin.nextslicecap
  split
  · omega
  · split
    · omega
    · exact growBy_le newLen (by omega) 4 oldCap (by omega)

theorem run_append_in {ts : Array TypeId} {type e : TypeId} {i : TypeInfo} {zv : Value} (T : AppT P w ts e i zv) {base : Option Addr} {len cap n : Nat} {x : Value} {arr : Array Value}
    (hx : (Builtin.lenOf x).run P w = .ok n w) (hf : (Builtin.firstCells i.size n x).run P w = .ok arr w) (hle : len + n ≤ cap) {w' : World}
    (hst : (match base with | some a => (storeCells (a.add (len * i.size)) arr.toList).run P w | none => .ok () w) = .ok () w') :
    (Builtin.append_ ts type #[.slice base len cap, x]).run P w = .ok (.slice base (len + n) cap) w' := by
  obtain ⟨t, h0, h1⟩ := T.t0
  obtain ⟨t', d', h2, h3, h4⟩ := T.t1
  have hz : (match d' with | .int _ => true | _ => false) = false := by cases d' <;> simp at h4 ⊢
  unfold Builtin.append_
  simp only [h0, h2]
  simp only [List.getElem?_toArray, List.getElem?_cons_zero, List.getElem?_cons_succ, Sem.run_bind, run_underlying_D h1, Result.andThen_ok, run_sizeOf_D T.info, run_underlying_D h3, Sem.run_pure]
  cases base with
  | none =>
    simp at hst; subst hst
    cases d' <;> simp at h4 <;> simp [hx, hf, hle]
  | some a =>
    simp only at hst
    cases d' <;> simp at h4 <;> simp [hx, hf, hle, hst]


def drawW (w : World) : World := { w with drawn := w.drawn + 1 }

theorem run_append_grow {ts : Array TypeId} {type e : TypeId} {i : TypeInfo} {zv : Value} (T : AppT P w ts e i zv) {base : Option Addr} {len cap n : Nat} {x : Value} {arr old : Array Value}
    (hx : (Builtin.lenOf x).run P w = .ok n w) (hf : (Builtin.firstCells i.size n x).run P (drawW w) = .ok arr (drawW w))
    (ho : (Builtin.firstCells i.size len (.slice base len cap)).run P (drawW w) = .ok old (drawW w)) (hgt : cap < len + n) (hb : (len + n) * i.bytes * 2 ≤ 2 ^ 47) (hpos : 0 < i.bytes) :
    ∃ newCap, len + n ≤ newCap ∧ (Builtin.append_ ts type #[.slice base len cap, x]).run P w =
      .ok (.slice (some ⟨w.heap.size, 0, none⟩) (len + n) newCap) (pushW (drawW w) (.cells (old ++ arr ++ Builtin.zeroCells zv.cells (newCap - (len + n))) e)) := by
  obtain ⟨t, h0, h1⟩ := T.t0
  obtain ⟨t', d', h2, h3, h4⟩ := T.t1
  have hneed : len + n ≤ (len + n) * i.bytes := Nat.le_mul_of_pos_right _ hpos
  have hcap1 : ¬ (Builtin.nextslicecap (len + n) cap * i.bytes > 2 ^ 48) := by
    have h5 := nextslicecap_le hgt
    have : Builtin.nextslicecap (len + n) cap * i.bytes ≤ 2 * (len + n) * i.bytes := Nat.mul_le_mul_right _ h5
    have h6 : 2 * (len + n) * i.bytes = (len + n) * i.bytes * 2 := by rw [Nat.mul_assoc, Nat.mul_comm]
    omega
  have hmax : ¬ (((len + n : Nat) : Int) > IntKind.i64.max ∧ i.bytes = 0) := by omega
  let q : Question := .appendCap (len + n) cap e
  refine ⟨q.cut (w.tape w.drawn q), by simp only [q, Question.cut]; omega, ?_⟩
  have hch : (choose q).run P w = .ok (q.cut (w.tape w.drawn q)) (drawW w) := by
    simp [choose, Sem.run, q, Question.forced, drawW]
  have har : ∀ m, (askRoom m).run P (drawW w) = .ok () (drawW w) := by
    intro m; unfold askRoom; split <;> rfl
  unfold Builtin.append_
  simp only [h0, h2]
  simp only [List.getElem?_toArray, List.getElem?_cons_zero, List.getElem?_cons_succ, Sem.run_bind, run_underlying_D h1, Result.andThen_ok, run_sizeOf_D T.info, run_underlying_D h3, Sem.run_pure]
  have hle : ¬ (len + n ≤ cap) := by omega
  cases d' <;> simp at h4
  all_goals
    simp only [Bool.false_eq_true, if_false, Sem.run_bind, Sem.run_pure, Result.andThen_ok, hx, hle, run_typeInfo_D T.info, false_or, hmax, hcap1]
    simp only [show choose (.appendCap (len + n) cap e) = choose q from rfl, hch, Result.andThen_ok, har, ho, T.zero, run_newRow]
    simp only [Bool.not_false, if_true, hf, Result.andThen_ok]
    rfl


theorem Sim.draw {g : Gh} {O S} (h : Sim g O S w) : Sim g O S (drawW w) := Sim.heap (w := w) rfl h
theorem Mon.draw {g : Gh} {O S} : Mon g O S w g O S (drawW w) := Mon.heap rfl
theorem Evo.draw {g : Gh} {O S} : Evo g O S w g O S (drawW w) := Evo.heap rfl

theorem CellsR.append {g : Gh} {O S} {cs ds : List AV} {vs us : Array Value} (h1 : CellsR g O S w lim cs vs) (h2 : CellsR g O S w lim ds us) : CellsR g O S w lim (cs ++ ds) (vs ++ us) := by
  refine ⟨by simp [h1.1, h2.1], fun i a ha => ?_⟩
  by_cases hi : i < cs.length
  · rw [List.getElem?_append_left hi] at ha
    obtain ⟨p, v, q, r⟩ := h1.2 i a ha
    exact ⟨p, v, by rw [Array.getElem?_append_left (by rw [h1.1]; exact hi)]; exact q, r⟩
  · rw [List.getElem?_append_right (by omega)] at ha
    obtain ⟨p, v, q, r⟩ := h2.2 _ a ha
    exact ⟨p, v, by rw [Array.getElem?_append_right (by rw [h1.1]; omega), h1.1]; exact q, r⟩

theorem NewR_bufTail {g : Gh} {O S} {d sz : Nat} {cs : List AV} {vs rest : Array Value} {ty : TypeId} (h : CellsR g O S w (d + 1) cs vs) : NewR g O S w d (.buf sz cs) (.cells (vs ++ rest) ty) := by
  refine ⟨vs ++ rest, ty, (0, 0), rfl, fun i _ => by simp, by simp [h.1], fun i a ha => ?_⟩
  obtain ⟨p, v, q, r⟩ := h.2 i a ha
  refine ⟨p, v, ?_, r⟩
  have hi : i < vs.size := by
    rcases Nat.lt_or_ge i vs.size with h' | h'
    · exact h'
    · rw [Array.getElem?_eq_none h'] at q; cases q
  rw [Array.getElem?_append_left hi]; exact q

theorem zeroCells_size (z : Array Value) (n : Nat) : (Builtin.zeroCells z n).size = n * z.size := by simp [Builtin.zeroCells]

/-- What a grown slice's new header is. -/
theorem bref_new {g' : Gh} {O' : List ABlk} {S' : List (List ABlk)} {w' : World} {d k c sz len cap : Nat} {cs : List AV} (hd : d < lim) (hr : g'.ρ d k = .at c) (hg : gm O' S' d k = some (.buf sz cs))
    (hle : len ≤ cap) (hs : Sized w' c (cap * sz)) : VR g' O' S' w' lim (.bref d k 0 len cs.length) (.slice (some ⟨c, 0, none⟩) len cap) :=
  .bref hd hle (fun _ => rfl) ⟨sz, cs, hg, Nat.le_refl _, by rw [hr]; simp, fun _ => by rw [hr]; exact ⟨.inr rfl, fun _ => hs⟩⟩

theorem sized_push {vs : Array Value} {ty : TypeId} {fr : Nat × Nat} {n : Nat} (h : n ≤ vs.size) : Sized (pushW w (.cells vs ty fr)) w.heap.size n :=
  ⟨vs, ty, fr, by show (w.heap.push _)[w.heap.size]? = _; rw [Array.getElem?_push, if_pos rfl], h⟩

theorem sm_self {O : List ABlk} {S : List (List ABlk)} {d k : Nat} {b : ABlk} (h : gm O S d k = some b) : smO O d k b = O ∧ smS S d k b = S := by
  cases d with
  | zero =>
    simp only [gm] at h
    refine ⟨?_, rfl⟩
    simp only [smO, if_true]
    apply List.ext_getElem?
    intro j
    rw [List.getElem?_set]
    split
    · rename_i e; subst e
      split
      · exact h.symm
      · rename_i hlt; rw [List.getElem?_eq_none (by omega)]
    · rfl
  | succ d =>
    simp only [gm] at h
    refine ⟨by simp [smO], ?_⟩
    simp only [smS]
    apply List.ext_getElem?
    intro j
    rw [List.getElem?_modify]
    by_cases e : d = j
    · subst e
      cases hS : S[d]? with
      | none => simp
      | some L =>
        rw [hS] at h
        simp only [Option.bind_some] at h
        simp only [if_true, Option.map_eq_map, Option.map_some]
        congr 1
        apply List.ext_getElem?
        intro i
        rw [List.getElem?_set]
        split
        · rename_i e; subst e
          split
          · exact h.symm
          · rename_i hlt; rw [List.getElem?_eq_none (by omega)]
        · rfl
    · simp [e]

theorem app_sound {O : List ABlk} {S : List (List ABlk)} {ts : Array TypeId} {type e : TypeId} {i : TypeInfo} {zv : Value} (T : AppT P w ts e i zv) (hz : zv.cells.size = i.size) (hsz : 0 < i.size) (hby : 0 < i.bytes)
    {s x : AV} {sv xv : Value} (hsim : Sim g O S w) (hS : S ≠ []) (hlim : lim = S.length + 1) (hs : VR g O S w lim s sv) (hx : VR g O S w lim x xv) {obj : Bool} {new : List AV} {n : Nat}
    (hcn : conts O S i.size x = some (new, n)) {v : AV} {O' : List ABlk} {S' : List (List ABlk)} (h : appA O S i.size i.bytes obj new n s = some (v, O', S')) :
    ∃ g' w' v', (Builtin.append_ ts type #[sv, xv]).run P w = .ok v' w' ∧ Sim g' O' S' w' ∧ Evo g O S w g' O' S' w' ∧ VR g' O' S' w' lim v v' := by
  obtain ⟨arr, f1, f2, f3, f4⟩ := run_firstCells (P := P) hsim hx hcn
  obtain ⟨arr', f1', f2', f3', f4'⟩ := run_firstCells (P := P) (w := drawW w) hsim.draw (hx.mono .draw) hcn
  -- where nothing is there yet
  have fresh : ∀ (a : Option Addr), (sv = .slice a 0 0) → (if n * i.bytes * 2 ≤ 2 ^ 47 ∧ new.all (AV.low (newD S obj + 1)) = true then
        some (AV.bref (newD S obj) (newK O S obj) 0 n new.length, newO O obj (.buf i.size new), newS S obj (.buf i.size new)) else none) = some (v, O', S') →
      ∃ g' w' v', (Builtin.append_ ts type #[sv, xv]).run P w = .ok v' w' ∧ Sim g' O' S' w' ∧ Evo g O S w g' O' S' w' ∧ VR g' O' S' w' lim v v' := by
    intro a hsv h
    subst hsv
    split at h
    · rename_i hcond
      obtain ⟨rfl, rfl, rfl⟩ := some3 h
      have hdl : newD S obj < lim := by cases obj <;> simp [newD] <;> omega
      by_cases hn : n = 0
      · subst hn
        have : new = [] := by simpa using f4
        subst this
        obtain ⟨s1, s2⟩ := hsim.new_nil hS obj i.size
        have harr : arr.toList = [] := by
          have := f3.1
          simpa using this
        refine ⟨_, w, .slice a 0 0, run_append_in T f1 f2 (Nat.le_refl 0) (by cases a <;> simp [harr, storeCells, pure]), s1, s2, ?_⟩
        refine .bref hdl (Nat.le_refl _) (fun h => by omega) ⟨i.size, [], by rw [gm_new hS]; simp, Nat.le_refl _, by simp [Gh.addNil], fun _ => ?_⟩
        simp [Gh.addNil]
      · obtain ⟨newCap, c1, c2⟩ := run_append_grow (type := type) T f1 f2' (old := #[]) (base := a) (len := 0) (cap := 0) (by cases a <;> simp [Builtin.firstCells, loadCells, loadCellsFrom, pure]) (by omega) (by simpa using hcond.1) hby
        have hrest := zeroCells_size zv.cells (newCap - (0 + n))
        have hnr : NewR g O S (drawW w) (newD S obj) (.buf i.size new) (.cells ((#[] ++ arr') ++ Builtin.zeroCells zv.cells (newCap - (0 + n))) e) :=
          NewR_bufTail (by simpa using f3'.low hcond.2)
        obtain ⟨s1, s2⟩ := hsim.draw.new_at hS obj hnr
        refine ⟨_, _, _, c2, s1, Evo.trans .draw s2, ?_⟩
        simp only [Nat.zero_add] at hrest c1 ⊢
        refine bref_new (c := w.heap.size) (sz := i.size) hdl (by simp [Gh.addAt, drawW]) (by rw [gm_new hS]; simp) c1 (sized_push (w := drawW w) ?_)
        rw [Array.size_append, Array.size_append, hrest, f3'.1, f4', hz]
        have : newCap * i.size = n * i.size + (newCap - n) * i.size := by rw [← Nat.add_mul]; congr 1; omega
        simp; omega
    · cases h
  unfold appA at h
  split at h
  · cases hs; exact fresh none rfl h
  · cases hs; exact fresh _ rfl h
  · rename_i d k off len tot
    cases hs with
    | bref hd hlc ha hb =>
      rename_i cap a
      obtain ⟨sz', cs, hg, ht, hu, hm⟩ := hb
      rw [hg] at h
      simp only at h
      split at h
      · rename_i hcond
        obtain ⟨rfl, rfl, hl, hcl, hbnd, hlow⟩ := hcond
        obtain ⟨rfl, rfl, rfl⟩ := some3 h
        have hm := hm hcl
        have hcs : conts O S i.size (.bref d k 0 len tot) = some (cs, len) := by
          simp only [conts, hg]
          rw [if_pos ⟨hcl, by omega⟩]
          simp [List.take_of_length_le (show cs.length ≤ len * i.size by omega)]
        have hsv : VR g O S w lim (.bref d k 0 len tot) (.slice a len cap) := .bref hd hlc ha ⟨i.size, cs, hg, ht, hu, fun _ => hm⟩
        have hsv' : VR g O S w (d + 1) (.bref d k 0 len tot) (.slice a len cap) := .bref (by omega) hlc ha ⟨i.size, cs, hg, ht, hu, fun _ => hm⟩
        by_cases hn : n = 0
        · subst hn
          have : new = [] := by simpa using f4
          subst this
          obtain ⟨s1, s2⟩ := sm_self hg
          have harr : arr.toList = [] := by
            have := f3.1
            simpa using this
          simp only [List.append_nil, s1, s2, Nat.add_zero, List.length_nil]
          exact ⟨g, w, .slice a len cap, run_append_in T f1 f2 hlc (by cases a <;> simp [harr, storeCells, pure]), hsim, .refl .., hsv⟩
        · have hnew : 0 < new.length := by rw [f4]; exact Nat.mul_pos (by omega) hsz
          by_cases hle : len + n ≤ cap
          · -- there is room
            cases hr : g.ρ d k with
            | un => exact absurd hr hu
            | nil => rw [hr] at hm; have := hm.2; omega
            | «at» c =>
              rw [hr] at hm
              obtain ⟨hadr, hsized⟩ := hm
              rcases hadr with h0 | rfl
              · omega
              · have hsz1 : Sized w c (cs.length + new.length) := by
                  obtain ⟨vs, ty, fr, p, q⟩ := hsized rfl
                  refine ⟨vs, ty, fr, p, Nat.le_trans ?_ q⟩
                  rw [f4, hcl, ← hl, ← Nat.add_mul]
                  exact Nat.mul_le_mul_right _ hle
                obtain ⟨w', e1, e2, e3, e4⟩ := hsim.extend P hr hg hsz1 (vs := arr.toList) (by simp [f3.1]) (cellsR_list f3 hlow)
                refine ⟨g, w', _, run_append_in T f1 f2 hle (by simp only [addr_add, Nat.zero_add]; rw [hl, ← hcl]; exact e1), e2, e3, ?_⟩
                have htl : tot + new.length = (cs ++ new).length := by simp [hcl]
                rw [htl]
                exact bref_new hd hr (by rw [gm_set hg]; simp) hle (e4 _ (hsized rfl))
          · -- a new array
            obtain ⟨old, o1, o2, o3, o4⟩ := run_firstCells (P := P) (w := drawW w) (lim := d + 1) hsim.draw (hsv'.mono .draw) hcs
            obtain ⟨newCap, c1, c2⟩ := run_append_grow (type := type) T f1 f2' o2 (by omega) hbnd hby
            have hrest := zeroCells_size zv.cells (newCap - (len + n))
            have hnr : NewR g O S (drawW w) d (.buf i.size (cs ++ new)) (.cells ((old ++ arr') ++ Builtin.zeroCells zv.cells (newCap - (len + n))) e) :=
              NewR_bufTail (o3.append (f3'.low hlow))
            obtain ⟨s1, s2⟩ := hsim.draw.moveTo hu hg (by simp; omega) hnr
            refine ⟨_, _, _, c2, s1, Evo.trans .draw s2, ?_⟩
            have htl : tot + new.length = (cs ++ new).length := by simp [hcl]
            rw [htl]
            refine bref_new (c := w.heap.size) (sz := i.size) hd (by simp [Gh.move, drawW]) (by rw [gm_set hg]; simp) c1 (sized_push (w := drawW w) ?_)
            rw [Array.size_append, Array.size_append, hrest, f3'.1, f4', hz, o3.1, hcl, ← hl]
            have : newCap * i.size = len * i.size + n * i.size + (newCap - (len + n)) * i.size := by rw [← Nat.add_mul, ← Nat.add_mul]; congr 1; omega
            omega
      · cases h
  · cases h


end
end Den
