/- Any operation that is no call. -/
import Derived.Test.YtajcniofkpifaaaDenP
set_option linter.unusedSectionVars false
set_option linter.unusedVariables false
set_option linter.unusedSimpArgs false
namespace Den
open Go
variable [GTab]

section
variable {P : Program} {g : Gh} {w : World} {lim : Nat}

theorem findNow_put {kt : TypeId} {q : SK} {d : TypeDesc} (hd : P.underlying kt = some d) (hq : skOf (some d) = some q) {O S} {x y : AV} {v u : Value} {l2 : Nat} (hx : VR g O S w 0 x v) (hy : VR g O S w l2 y u)
    (x1 : x.one = true) (y1 : y.one = true) :
    ∀ (es : List (AV × AV)) (ms : List MapEntry), ms.length = es.length →
      (∀ (i : Nat) (a : AV × AV), es[i]? = some a → a.1.one = true ∧ a.2.one = true ∧ ∃ m, ms[i]? = some m ∧ VR g O S w 0 a.1 m.key ∧ VR g O S w l2 a.2 m.val) →
      ∀ (n : Nat) (r : Option AV), findE q x es = some r →
        (r = none ∧ Instr.findNow d v ms n = some none ∧ putE q x y es = es ++ [(x, y)]) ∨
        (∃ i m, Instr.findNow d v ms n = some (some (n + i, m.val)) ∧ ms[i]? = some m ∧ Instr.sameNow d v m.key = some true ∧ (putE q x y es).length = es.length ∧
          ∀ j, (putE q x y es)[j]? = if j = i then some (x, y) else es[j]?)
  | [], ms, hl, _, n, r, h => by
    simp [findE] at h; subst h
    cases ms with
    | nil => exact .inl ⟨rfl, rfl, rfl⟩
    | cons m ms => simp at hl
  | (k, z) :: es, ms, hl, hr, n, r, h => by
    cases ms with
    | nil => simp at hl
    | cons m ms =>
      obtain ⟨_, _, m', hm, hk, hv⟩ := hr 0 (k, z) rfl
      simp at hm; subst hm
      simp only [findE] at h
      cases he : eqCell q x k with
      | none => rw [he] at h; cases h
      | some b =>
        rw [he] at h
        have hs := sameNow_D hd hq hx hk he
        cases b with
        | true =>
          refine .inr ⟨0, m, by simp [Instr.findNow, hs], rfl, hs, by simp [putE, he], fun j => ?_⟩
          simp only [putE, he]
          cases j <;> simp
        | false =>
          simp only at h
          rcases findNow_put hd hq hx hy x1 y1 es ms (by simpa using hl) (fun i a ha => by simpa using hr (i + 1) a (by simpa using ha)) (n + 1) r h with ⟨e1, e2, e3⟩ | ⟨i, m', e1, e2, e3, e4, e5⟩
          · exact .inl ⟨e1, by simp [Instr.findNow, hs, e2], by simp [putE, he, e3]⟩
          · refine .inr ⟨i + 1, m', by simp [Instr.findNow, hs, e1]; omega, by simpa using e2, e3, by simp [putE, he, e4], fun j => ?_⟩
            simp only [putE, he]
            cases j with
            | zero => simp
            | succ j => simp [e5 j]

theorem sameBits_of {q : SK} {d : TypeDesc} (hq : skOf (some d) = some q) {v u : Value} (h : Instr.sameNow d v u = some true) : Instr.sameBits 10000 u v = true := by
  rcases skOf_spec hq with ⟨rfl, e⟩ | ⟨rfl, k, e⟩ | ⟨rfl, e⟩ <;> cases e <;> cases v <;> cases u <;> simp [Instr.sameNow] at h <;> try (simp [Instr.sameBits, h]; done)
  simp only [Instr.sameBits]
  rw [beq_toListBytes] at h ⊢
  simp at h ⊢
  exact h.symm

theorem mup_sound {O : List ABlk} {S : List (List ABlk)} {t kt e : TypeId} {q : SK} {d : TypeDesc} (hu : P.underlying t = some (.map kt e)) (hd : P.underlying kt = some d) (hq : skOf (some d) = some q)
    (hsim : Sim g O S w) {dd k : Nat} {es : List (AV × AV)} {x y : AV} {mv v u : Value} (hm : VR g O S w lim (.map dd k) mv) (hg : gm O S dd k = some (.map es))
    (hx : VR g O S w lim x v) (hy : VR g O S w lim y u) (x1 : x.one = true) (y1 : y.one = true) (xl : x.low 0 = true) (yl : y.low (dd + 1) = true) {r : Option AV} (hf : findE q x es = some r) :
    ∃ w', (Instr.mapUpdate t mv v u).run P w = .ok () w' ∧ Sim g (smO O dd k (.map (putE q x y es))) (smS S dd k (.map (putE q x y es))) w' ∧
      Evo g O S w g (smO O dd k (.map (putE q x y es))) (smS S dd k (.map (putE q x y es))) w' := by
  cases hm with
  | map hdl hb hr =>
    rename_i c
    obtain ⟨ms, ck, q1, q2, q3⟩ := hsim.blk _ _ _ _ hr hg
    have hx0 := hx.low xl
    have hy0 := hy.low yl
    have hgo : (getObj c).run P w = .ok (.map ms ck) w := by simp [getObj, Sem.run, q1]
    have hset : ∀ o, (setObj c o).run P w = .ok () (setBlk w c o) := by intro o; simp [setObj, Sem.run, q1, setBlk]
    have hck := checkKey_D (w := w) hd hq false v
    have hfk : ∀ x, Instr.findNow d v ms.toList 0 = some x → (Instr.findKey kt v ms.toList).run P w = .ok x w := by
      intro x hxx
      unfold Instr.findKey
      simp only [Sem.run_bind, run_underlying_D hd, Result.andThen_ok, hxx]
      rfl
    have hlen : ms.toList.length = es.length := by simpa using q2
    rcases findNow_put hd hq hx0 hy0 x1 y1 es ms.toList hlen (fun i a ha => by obtain ⟨a1, a2, m, p1, p2, p3⟩ := q3 i a ha; exact ⟨a1, a2, m, by simpa using p1, p2, p3⟩) 0 r hf with ⟨rfl, e2, e3⟩ | ⟨i, m, e1, e2, e3, e4, e5⟩
    · refine ⟨setBlk w c (.map (ms.push { key := v, val := u, born := ck }) (ck + 1)), ?_, ?_⟩
      · unfold Instr.mapUpdate
        simp only [Sem.run_bind, run_underlying_D hu, Result.andThen_ok]
        simp only [hgo, Sem.run_bind, Result.andThen_ok, hck, hfk _ e2, hset]
      · rw [e3]
        refine hsim.setMap hr hg (by simp [q2]) (fun i a ha => ?_)
        by_cases hi : i < es.length
        · rw [List.getElem?_append_left hi] at ha
          obtain ⟨a1, a2, m, p1, p2, p3⟩ := q3 i a ha
          refine ⟨a1, a2, m, ?_, p2, p3⟩
          rw [Array.getElem?_push, if_neg (by omega)]; exact p1
        · rw [List.getElem?_append_right (by omega)] at ha
          have hi' : i = es.length := by
            rcases Nat.lt_or_ge (i - es.length) 1 with h' | h'
            · omega
            · rw [List.getElem?_eq_none (by simpa using h')] at ha; cases ha
          subst hi'
          simp at ha; subst ha
          exact ⟨x1, y1, { key := v, val := u, born := ck }, by rw [Array.getElem?_push, if_pos q2.symm], hx0, hy0⟩
    · have e2' : ms[i]? = some m := by simpa using e2
      have hi : i < ms.size := by
        rcases Nat.lt_or_ge i ms.size with h' | h'
        · exact h'
        · rw [Array.getElem?_eq_none h'] at e2'; cases e2'
      have hkts : (Instr.keyThatStays m.key v).run P w = .ok v w := by
        unfold Instr.keyThatStays
        rw [if_pos (sameBits_of hq e3)]; rfl
      refine ⟨setBlk w c (.map (ms.modify i fun e => { e with key := v, val := u }) ck), ?_, ?_⟩
      · unfold Instr.mapUpdate
        simp only [Sem.run_bind, run_underlying_D hu, Result.andThen_ok]
        simp only [hgo, Sem.run_bind, Result.andThen_ok, hck, hfk _ e1, Nat.zero_add, e2', Option.map_some, Option.getD_some, hkts, hset]
      · refine hsim.setMap hr hg (by simp [q2, e4]) (fun j a ha => ?_)
        rw [e5 j] at ha
        rw [Array.getElem?_modify]
        by_cases hj : j = i
        · subst hj
          simp at ha; subst ha
          refine ⟨x1, y1, { m with key := v, val := u }, ?_, hx0, hy0⟩
          simp [e2']
        · rw [if_neg hj] at ha
          obtain ⟨a1, a2, m', p1, p2, p3⟩ := q3 j a ha
          refine ⟨a1, a2, m', ?_, p2, p3⟩
          rw [if_neg (fun h => hj h.symm)]; exact p1

/-- The first n cells of a slice, or of a string, that has more. -/
theorem run_firstCells_le {O : List ABlk} {S : List (List ABlk)} (hsim : Sim g O S w) {sz : Nat} {x : AV} {v : Value} (hx : VR g O S w lim x v) {cs : List AV} {m n : Nat} (h : conts O S sz x = some (cs, m)) (hn : n ≤ m) :
    ∃ arr, (Builtin.lenOf v).run P w = .ok m w ∧ (Builtin.firstCells sz n v).run P w = .ok arr w ∧ CellsR g O S w lim (cs.take (n * sz)) arr := by
  rcases conts_sound hsim hx h with ⟨s, rfl, rfl, rfl, rfl⟩ | ⟨hl, a, cap, rfl, hle, hcell⟩
  · cases hx
    refine ⟨((s.take n).map fun b => Value.int .u8 b.toNat).toArray, ?_, ?_, ⟨by simp, fun i y hy => ?_⟩⟩
    · simp [Builtin.lenOf, pure, ByteArray.size]
    · simp only [Builtin.firstCells, Sem.run_pure]
      have : (ByteArray.mk s.toArray).extract 0 n = ⟨(s.take n).toArray⟩ := by
        apply ByteArray.ext
        simp [ByteArray.data_extract]
      rw [this]
      simp
    · rw [Nat.mul_one, ← List.map_take, List.getElem?_map] at hy
      cases hs : (s.take n)[i]? with
      | none => rw [hs] at hy; cases hy
      | some b =>
        rw [hs] at hy; cases hy
        refine ⟨rfl, .int .u8 b.toNat, ?_, .int⟩
        simp only [List.getElem?_toArray, List.getElem?_map, hs]; rfl
  · have hmul : n * sz ≤ m * sz := Nat.mul_le_mul_right _ hn
    cases a with
    | none =>
      have : cs = [] := by
        cases cs with
        | nil => rfl
        | cons y r => obtain ⟨_, _, h0, _⟩ := hcell 0 y rfl; cases h0
      subst this
      exact ⟨#[], rfl, rfl, ⟨by simp, fun i y hy => by simp at hy⟩⟩
    | some ad =>
      by_cases hz : cs = []
      · subst hz
        have hn0 : n * sz = 0 := by simp at hl; omega
        refine ⟨#[], rfl, ?_, ⟨by simp, fun i y hy => by simp at hy⟩⟩
        simp only [Builtin.firstCells, hn0]; rfl
      · obtain ⟨c, off, hadr⟩ : ∃ c off, ad = ⟨c, off, none⟩ := by
          cases cs with
          | nil => exact absurd rfl hz
          | cons y r => obtain ⟨c, off, h0, _⟩ := hcell 0 y rfl; exact ⟨c, off, by simpa using h0⟩
        subst hadr
        let f : Nat → Value := fun j => (w.cell? ⟨c, off + j, none⟩).getD undef
        have hval : ∀ j y, cs[j]? = some y → y.one = true ∧ w.cell? ⟨c, off + j, none⟩ = some (f j) ∧ VR g O S w lim y (f j) := fun j y hy => by
          obtain ⟨c', off', h0, h1, z, h2, h3⟩ := hcell j y hy
          simp at h0; obtain ⟨rfl, rfl⟩ := h0
          exact ⟨h1, by simp [f, h2], by simpa [f, h2] using h3⟩
        have hf : ∀ j, j < n * sz → w.cell? ((⟨c, off, none⟩ : Addr).add j) = some (f j) := fun j hj => by
          rw [addr_add]
          exact (hval j _ (List.getElem?_eq_getElem (by omega))).2.1
        refine ⟨((List.range (n * sz)).map f).toArray, rfl, ?_, ⟨by simp; omega, fun i y hy => ?_⟩⟩
        · simp only [Builtin.firstCells]
          exact run_loadCells w _ (n * sz) f hf
        · rw [List.getElem?_take] at hy
          split at hy
          · rename_i hi
            exact ⟨(hval i y hy).1, f i, by simp [hi], (hval i y hy).2.2⟩
          · cases hy

theorem putAt_nil (cs : List AV) (off : Nat) : putAt cs off [] = cs := by simp [putAt]

/-- Cells that are written into a slice, as far as it goes. -/
theorem writeSlice {O : List ABlk} {S : List (List ABlk)} (hsim : Sim g O S w) {y : AV} {yv : Value} (hy : VR g O S w lim y yv) {d k off len : Nat} {new : List AV} {vs : List Value} {cs : List AV} {b b' : ABlk}
    (hl : vs.length = new.length) (hn : len = 0 → new = []) (hv : ∀ (i : Nat) (a : AV), new[i]? = some a → a.one = true ∧ ∃ v, vs[i]? = some v ∧ VR g O S w (d + 1) a v)
    (hc : (∃ cap, y = .sref d k off len cap ∧ b = .arr cs ∧ b' = .arr (putAt cs off new)) ∨ ∃ s, y = .bref d k off len cs.length ∧ b = .buf s cs ∧ b' = .buf s (putAt cs off new))
    (hg : gm O S d k = some b) (hoff : off + new.length ≤ cs.length) :
    ∃ a cap w', yv = .slice a len cap ∧ (match a with | some a => (storeCells a vs).run P w | none => .ok () w) = .ok () w' ∧ Sim g (smO O d k b') (smS S d k b') w' ∧ Evo g O S w g (smO O d k b') (smS S d k b') w' := by
  have stay : new = [] → b' = b → ∃ w', w' = w ∧ Sim g (smO O d k b') (smS S d k b') w' ∧ Evo g O S w g (smO O d k b') (smS S d k b') w' := fun _ e => by
    subst e
    obtain ⟨e1, e2⟩ := sm_self hg
    rw [e1, e2]
    exact ⟨w, rfl, hsim, .refl ..⟩
  have hvs : new = [] → vs = [] := fun e => by rw [e] at hl; exact List.eq_nil_of_length_eq_zero hl
  rcases hc with ⟨cap, rfl, rfl, rfl⟩ | ⟨s, rfl, rfl, rfl⟩
  · cases hy with
    | sref hd hb hr hlc ha =>
      rename_i c a
      rcases ha with h0 | h0
      · have hl0 : len = 0 := by omega
        have hnew := hn hl0
        obtain ⟨w', rfl, e1, e2⟩ := stay hnew (by rw [hnew, putAt_nil])
        refine ⟨some a, cap, _, rfl, ?_, e1, e2⟩
        rw [hvs hnew]; rfl
      · subst h0
        obtain ⟨w', e1, e2, e3⟩ := hsim.write P hr hg hoff hl hv
        exact ⟨_, cap, w', rfl, e1, e2, e3⟩
  · cases hy with
    | bref hd hlc ha hb =>
      rename_i cap a
      obtain ⟨sz', cs', hg', ht', hu, hm⟩ := hb
      rw [hg] at hg'
      cases hg'
      have hm := hm rfl
      cases hr : g.ρ d k with
      | un => exact absurd hr hu
      | nil =>
        rw [hr] at hm
        obtain ⟨rfl, h0⟩ := hm
        have hl0 : len = 0 := by omega
        have hnew := hn hl0
        obtain ⟨w', rfl, e1, e2⟩ := stay hnew (by rw [hnew, putAt_nil])
        refine ⟨a, cap, _, rfl, ?_, e1, e2⟩
        rw [hvs hnew]; cases a <;> rfl
      | «at» c =>
        rw [hr] at hm
        rcases hm.1 with h0 | h0
        · have hl0 : len = 0 := by omega
          have hnew := hn hl0
          obtain ⟨w', rfl, e1, e2⟩ := stay hnew (by rw [hnew, putAt_nil])
          refine ⟨a, cap, _, rfl, ?_, e1, e2⟩
          rw [hvs hnew]; cases a <;> rfl
        · subst h0
          obtain ⟨w', e1, e2, e3⟩ := hsim.writeBuf P hr hg hoff hl hv
          exact ⟨_, cap, w', rfl, e1, e2, e3⟩

theorem copy_sound {O : List ABlk} {S : List (List ABlk)} {ts : Array TypeId} {type e t : TypeId} {i : TypeInfo} (h0 : ts[0]? = some t) (h1 : P.underlying t = some (.slice e)) (hi : P.info? e = some i)
    {y x : AV} {yv xv : Value} (hsim : Sim g O S w) (hy : VR g O S w lim y yv) (hx : VR g O S w lim x xv) {new : List AV} {m : Nat} (hcn : conts O S i.size x = some (new, m))
    {v : AV} {O' : List ABlk} {S' : List (List ABlk)} (h : cpyA O S i.size new m y = some (v, O', S')) :
    ∃ w' v', (Builtin.copy_ ts type #[yv, xv]).run P w = .ok v' w' ∧ Sim g O' S' w' ∧ Evo g O S w g O' S' w' ∧ VR g O' S' w' lim v v' := by
  have run : ∀ (a : Option Addr) (len cap n : Nat) (arr : Array Value) (w' : World), n = min m len → yv = .slice a len cap → (Builtin.lenOf xv).run P w = .ok m w → (Builtin.firstCells i.size n xv).run P w = .ok arr w →
      (match a with | some a => (storeCells a arr.toList).run P w | none => .ok () w) = .ok () w' → (Builtin.copy_ ts type #[yv, xv]).run P w = .ok (goInt (n : Int)) w' := by
    intro a len cap n arr w' hn hyv r1 r2 r3
    subst hyv
    unfold Builtin.copy_
    simp only [h0]
    simp only [List.getElem?_toArray, List.getElem?_cons_zero, List.getElem?_cons_succ, Sem.run_bind, run_underlying_D h1, Result.andThen_ok, r1, run_sizeOf_D hi]
    have : Nat.min m len = n := hn.symm
    rw [this, r2]
    cases a with
    | none => simp at r3; subst r3; rfl
    | some a => simp only [Result.andThen_ok, Sem.run_bind, r3]; rfl
  unfold cpyA at h
  split at h
  · cases h
    cases hy
    obtain ⟨arr, r1, r2, r3⟩ := run_firstCells_le (P := P) hsim hx hcn (Nat.zero_le m)
    exact ⟨w, _, run none 0 0 0 arr w (by simp) rfl r1 r2 rfl, hsim, .refl .., .int⟩
  · cases h
    cases hy
    rename_i a
    obtain ⟨arr, r1, r2, r3⟩ := run_firstCells_le (P := P) hsim hx hcn (Nat.zero_le m)
    have harr : arr.toList = [] := by
      have := r3.1
      simp at this
      simp [this]
    refine ⟨w, _, run (some a) 0 0 0 arr w (by simp) rfl r1 r2 ?_, hsim, .refl .., .int⟩
    simp only [harr]; rfl
  · rename_i d k off len cap
    split at h
    · rename_i cs hg
      split at h
      · rename_i hcond
        cases h
        obtain ⟨arr, r1, r2, r3⟩ := run_firstCells_le (P := P) hsim hx hcn (Nat.min_le_left m len)
        have hlen : (new.take (min m len * i.size)).length ≤ min m len * i.size := by rw [List.length_take]; exact Nat.min_le_left _ _
        obtain ⟨a, cap', w', e1, e2, e3, e4⟩ := writeSlice (P := P) hsim hy (d := d) (k := k) (off := off) (len := len) (new := new.take (min m len * i.size)) (vs := arr.toList) (cs := cs) (b := .arr cs) (b' := .arr (putAt cs off (new.take (min m len * i.size))))
          (by simpa using r3.1) (fun h0 => by simp [h0]) (cellsR_list r3 hcond.2) (.inl ⟨_, rfl, rfl, rfl⟩) hg (by omega)
        exact ⟨w', _, run a len cap' _ arr w' rfl e1 r1 r2 e2, e3, e4, .int⟩
      · cases h
    · cases h
  · rename_i d k off len tot
    split at h
    · rename_i s cs hg
      split at h
      · rename_i hcond
        cases h
        obtain ⟨rfl, hcond⟩ := hcond
        obtain ⟨arr, r1, r2, r3⟩ := run_firstCells_le (P := P) hsim hx hcn (Nat.min_le_left m len)
        have hlen : (new.take (min m len * i.size)).length ≤ min m len * i.size := by rw [List.length_take]; exact Nat.min_le_left _ _
        obtain ⟨a, cap', w', e1, e2, e3, e4⟩ := writeSlice (P := P) hsim hy (d := d) (k := k) (off := off) (len := len) (new := new.take (min m len * i.size)) (vs := arr.toList) (cs := cs) (b := .buf s cs) (b' := .buf s (putAt cs off (new.take (min m len * i.size))))
          (by simpa using r3.1) (fun h0 => by simp [h0]) (cellsR_list r3 hcond.2) (.inr ⟨_, rfl, rfl, rfl⟩) hg (by omega)
        exact ⟨w', _, run a len cap' _ arr w' rfl e1 r1 r2 e2, e3, e4, .int⟩
      · cases h
    · cases h
  · cases h

theorem clear_sound {O : List ABlk} {S : List (List ABlk)} {ts : Array TypeId} {type e t : TypeId} {z : List AV} (h0 : ts[0]? = some t) (h1 : P.underlying t = some (.slice e)) (hz : zeroOf P e = some z)
    {y : AV} {yv : Value} (hsim : Sim g O S w) (hy : VR g O S w lim y yv) {v : AV} {O' : List ABlk} {S' : List (List ABlk)} (h : clrA O S z y = some (v, O', S')) :
    ∃ w', (Builtin.clear_ ts type #[yv]).run P w = .ok (.tuple #[]) w' ∧ Sim g O' S' w' ∧ Evo g O S w g O' S' w' ∧ VR g O' S' w' lim v (.tuple #[]) := by
  obtain ⟨zv, i, z1, z2, z3, z4⟩ := run_zero_D (P := P) hz g O S w lim
  have hcells : ∀ n, CellsR g O S w lim (repCells z n) (Builtin.zeroCells zv.cells n) := fun n => by
    have := z4.rep n
    rw [← z4.1] at this
    exact this
  have htup : VR g O' S' w lim (.tup []) (.tuple #[]) := .tup (fun _ => undef) rfl (by simp) (by simp)
  have run : ∀ (a : Option Addr) (len cap : Nat) (w' : World), yv = .slice a len cap → (match a with | some a => (storeCells a (Builtin.zeroCells zv.cells len).toList).run P w | none => .ok () w) = .ok () w' →
      (Builtin.clear_ ts type #[yv]).run P w = .ok (.tuple #[]) w' := by
    intro a len cap w' hyv r3
    subst hyv
    unfold Builtin.clear_
    simp only [h0]
    simp only [List.getElem?_toArray, List.getElem?_cons_zero, Sem.run_bind, run_underlying_D h1, Result.andThen_ok]
    cases a with
    | none => simp at r3; subst r3; rfl
    | some a =>
      cases len with
      | zero =>
        have : (Builtin.zeroCells zv.cells 0).toList = [] := by simp [Builtin.zeroCells]
        rw [this] at r3
        cases r3
        rfl
      | succ len =>
        simp only [Sem.run_bind, z1, Result.andThen_ok, r3]
        rfl
  have tupv : ∀ w', VR g O' S' w' lim (.tup []) (.tuple #[]) := fun w' => .tup (fun _ => undef) rfl (by simp) (by simp)
  unfold clrA at h
  split at h
  · cases h
    cases hy
    exact ⟨w, run none 0 0 w rfl rfl, hsim, .refl .., tupv w⟩
  · cases h
    cases hy
    rename_i a
    refine ⟨w, run (some a) 0 0 w rfl ?_, hsim, .refl .., tupv w⟩
    have : (Builtin.zeroCells zv.cells 0).toList = [] := by simp [Builtin.zeroCells]
    simp only [this]; rfl
  · rename_i d k off len cap
    split at h
    · rename_i cs hg
      split at h
      · rename_i hcond
        cases h
        have r3 := hcells len
        obtain ⟨a, cap', w', e1, e2, e3, e4⟩ := writeSlice (P := P) hsim hy (d := d) (k := k) (off := off) (len := len) (new := repCells z len) (vs := (Builtin.zeroCells zv.cells len).toList) (cs := cs) (b := .arr cs) (b' := .arr (putAt cs off (repCells z len)))
          (by simpa using r3.1) (fun h0 => by simp [h0, repCells]) (cellsR_list r3 hcond.2) (.inl ⟨_, rfl, rfl, rfl⟩) hg (by rw [repCells_length]; exact hcond.1)
        exact ⟨w', run a len cap' w' e1 e2, e3, e4, tupv w'⟩
      · cases h
    · cases h
  · rename_i d k off len tot
    split at h
    · rename_i s cs hg
      split at h
      · rename_i hcond
        cases h
        obtain ⟨rfl, hcond⟩ := hcond
        have r3 := hcells len
        obtain ⟨a, cap', w', e1, e2, e3, e4⟩ := writeSlice (P := P) hsim hy (d := d) (k := k) (off := off) (len := len) (new := repCells z len) (vs := (Builtin.zeroCells zv.cells len).toList) (cs := cs) (b := .buf s cs) (b' := .buf s (putAt cs off (repCells z len)))
          (by simpa using r3.1) (fun h0 => by simp [h0, repCells]) (cellsR_list r3 hcond.2) (.inr ⟨_, rfl, rfl, rfl⟩) hg (by rw [repCells_length]; exact hcond.1)
        exact ⟨w', run a len cap' w' e1 e2, e3, e4, tupv w'⟩
      · cases h
    · cases h
  · cases h

theorem eff_sound {fc : FC} {o : Oper} {ao : AO} {st : St} {a : Act} {v : AV} {O' : List ABlk} {S' : List (List ABlk)} (hc : cop P fc o = some ao) (hn : ao.cls = .eff)
    (hx : aop st ao = some (v, O', S')) (hsim : Sim g st.O st.S w) (hS : st.S ≠ []) (hlim : lim = st.S.length + 1) (henv : EnvR g st.O st.S w lim st.env a.tmps) : EffOk P g st w lim a o v O' S' := by
  have hE : ∀ {x : Operand} {x' : Opd}, copd x = some x' → VR g st.O st.S w lim (ev st.env x') (a.eval x) := fun h => ev_sound (defers := a.defers) henv h
  have hcl := cop_cls hc
  obtain ⟨dst, op, type, pos, after, guard⟩ := o
  cases op <;> simp only [cop] at hc <;> simp only at hcl <;> try (cases hc; done)
  case store t x y =>
    split at hc
    · rename_i n ag x' y' h1 h2 h3
      cases hc
      simp only [aop, Option.map_eq_some_iff] at hx
      obtain ⟨⟨O1, S1⟩, hx, he⟩ := hx
      cases he
      obtain ⟨w', e1, e2, e3⟩ := store_sound h1 hsim (hE h2) (hE h3) hx
      exact ⟨g, w', .skip, undef, by simp only [execOp, Sem.run_bind, e1, Result.andThen_ok]; rfl, .inr ⟨rfl, rfl⟩, e2, e3, .undef⟩
    · cases hc
  case mapUpdate t m k x =>
    split at hc
    · rename_i kt e m' k' x' h1 h2 h3 h4
      split at hc
      · rename_i q h5
        cases hc
        obtain ⟨d, hd⟩ : ∃ d, P.underlying kt = some d := by
          cases hk : P.underlying kt with
          | none => rw [hk] at h5; cases h5
          | some d => exact ⟨d, rfl⟩
        rw [hd] at h5
        simp only [aop] at hx
        split at hx
        · rename_i dd i em
          have hmv := hE h2
          rw [em] at hmv
          split at hx
          · rename_i es hg
            split at hx
            · rename_i hcond
              obtain ⟨rfl, rfl, rfl⟩ := some3 hx
              obtain ⟨c1, c2, c3, c4, c5⟩ := hcond
              obtain ⟨r, hr⟩ := Option.isSome_iff_exists.1 c5
              obtain ⟨w', e1, e2, e3⟩ := mup_sound h1 hd h5 hsim hmv hg (hE h3) (hE h4) c1 c2 c3 c4 hr
              exact ⟨g, w', .skip, undef, by simp only [execOp, Sem.run_bind, e1, Result.andThen_ok]; rfl, .inr ⟨rfl, rfl⟩, e2, e3, .undef⟩
            · cases hx
          · cases hx
        · cases hx
      · cases hc
    · cases hc
  case call c =>
    unfold ccall at hc
    split at hc
    · cases hc
    · rename_i args hargs
      split at hc
      · cases hc; cases hn
      · cases hc; cases hn
      · cases hc
      · simp only [Option.map_eq_some_iff] at hc
        obtain ⟨_, _, rfl⟩ := hc; cases hn
      · rename_i b hcal
        obtain ⟨ha1, ha2⟩ := args_map (defers := a.defers) henv hargs
        have hex : execOp a.eval ⟨dst, .call c, type, pos, after, guard⟩ = builtin b c.argTypes type (c.args.map fun | .const _ => true | _ => false) (c.args.map a.eval) := by
          simp only [execOp, resolve, hcal]
          rfl
        simp only at hc
        split at hc
        · split at hc <;> first | (cases hc; cases hn) | cases hc
        · rename_i s x
          obtain ⟨sv, hsv, hs⟩ := ha2 0 (ev st.env s) rfl
          obtain ⟨xv, hxv, hxr⟩ := ha2 1 (ev st.env x) rfl
          have hargs2 : c.args.map a.eval = #[sv, xv] := by
            have h0 : (c.args.map a.eval)[0]? = some sv := hsv
            have h1 : (c.args.map a.eval)[1]? = some xv := hxv
            have hsz : (c.args.map a.eval).size = 2 := ha1
            apply Array.ext_getElem?
            intro j
            match j with
            | 0 => exact h0
            | 1 => exact h1
            | j + 2 => rw [Array.getElem?_eq_none (by omega)]; rfl
          have key : ∀ (e : TypeId), (∃ t, c.argTypes[0]? = some t ∧ P.underlying t = some (.slice e)) → (∃ t d, c.argTypes[1]? = some t ∧ P.underlying t = some d ∧ (match d with | .slice _ | .string => True | _ => False)) →
              capp P e s x (fc.isObj dst) = some ao → EffOk P g st w lim a ⟨dst, .call c, type, pos, after, guard⟩ v O' S' := by
            intro e t0 t1 hc
            unfold capp at hc
            split at hc
            · rename_i i hi
              split at hc
              · rename_i hcond
                cases hc
                obtain ⟨z, hz⟩ := Option.isSome_iff_exists.1 hcond.2.2
                simp only [aop] at hx
                split at hx
                · cases hx
                · rename_i new n hcn
                  obtain ⟨zv, i', e1, e2, e3, e4⟩ := run_zero_D (P := P) hz g st.O st.S w 0
                  rw [hi] at e2; cases e2
                  have hzall : ∀ w, (zeroValue e).run P w = .ok zv w := by
                    intro w2
                    obtain ⟨zv2, _, q1, _, _, _⟩ := run_zero_D (P := P) hz g st.O st.S w2 0
                    have : zv2 = zv := by
                      unfold zeroOf at hz
                      split at hz
                      · rename_i i0 hi0
                        split at hz
                        · rename_i zz hzz
                          have k1 : (zeroValue e).run P w = .ok zz w := by simp [zeroValue, run_typeInfo_D hi0, hzz, pure]
                          have k2 : (zeroValue e).run P w2 = .ok zz w2 := by simp [zeroValue, run_typeInfo_D hi0, hzz, pure]
                          rw [e1] at k1; rw [q1] at k2
                          cases k1; cases k2; rfl
                        · cases hz
                      · cases hz
                    rw [← this]; exact q1
                  obtain ⟨g', w', v', r1, r2, r3, r4⟩ := app_sound (type := type) ⟨t0, t1, hi, hzall⟩ (by rw [e4.1, e3]) hcond.1 hcond.2.1 hsim hS hlim hs hxr hcn hx
                  refine ⟨g', w', .value v', v', ?_, .inl rfl, r2, r3, r4⟩
                  rw [hex, hargs2]
                  simp only [builtin, Sem.run_bind, r1, Result.andThen_ok]; rfl
              · cases hc
            · cases hc
          cases ht0 : c.argTypes[0]? with
          | none => rw [ht0] at hc; simp at hc
          | some t =>
            cases ht1 : c.argTypes[1]? with
            | none => rw [ht0, ht1] at hc; simp at hc
            | some t' =>
              rw [ht0, ht1] at hc
              simp only [Option.bind_some] at hc
              split at hc
              · rename_i e e' q1 q2
                exact key e ⟨t, ht0, q1⟩ ⟨t', _, ht1, q2, trivial⟩ hc
              · rename_i e q1 q2
                exact key e ⟨t, ht0, q1⟩ ⟨t', _, ht1, q2, trivial⟩ hc
              · cases hc
        · -- copy
          rename_i d s
          obtain ⟨dv, hdv, hd⟩ := ha2 0 (ev st.env d) rfl
          obtain ⟨sv, hsv, hs⟩ := ha2 1 (ev st.env s) rfl
          have hargs2 : c.args.map a.eval = #[dv, sv] := by
            have h0 : (c.args.map a.eval)[0]? = some dv := hdv
            have h1 : (c.args.map a.eval)[1]? = some sv := hsv
            have hsz : (c.args.map a.eval).size = 2 := ha1
            apply Array.ext_getElem?
            intro j
            match j with
            | 0 => exact h0
            | 1 => exact h1
            | j + 2 => rw [Array.getElem?_eq_none (by omega)]; rfl
          split at hc
          · rename_i e q1
            split at hc
            · rename_i i hi
              cases hc
              obtain ⟨t, ht0, q2⟩ := Option.bind_eq_some_iff.1 q1
              simp only [aop] at hx
              split at hx
              · cases hx
              · rename_i new m hcn
                obtain ⟨w', v', r1, r2, r3, r4⟩ := copy_sound (type := type) ht0 q2 hi hsim hd hs hcn hx
                refine ⟨g, w', .value v', v', ?_, .inl rfl, r2, r3, r4⟩
                rw [hex, hargs2]
                simp only [builtin, Sem.run_bind, r1, Result.andThen_ok]; rfl
            · cases hc
          · cases hc
        · -- clear
          rename_i d
          obtain ⟨dv, hdv, hd⟩ := ha2 0 (ev st.env d) rfl
          have hargs2 : c.args.map a.eval = #[dv] := by
            have h0 : (c.args.map a.eval)[0]? = some dv := hdv
            have hsz : (c.args.map a.eval).size = 1 := ha1
            apply Array.ext_getElem?
            intro j
            match j with
            | 0 => exact h0
            | j + 1 => rw [Array.getElem?_eq_none (by omega)]; rfl
          split at hc
          · rename_i e q1
            simp only [Option.map_eq_some_iff] at hc
            obtain ⟨z, hz, rfl⟩ := hc
            obtain ⟨t, ht0, q2⟩ := Option.bind_eq_some_iff.1 q1
            simp only [aop] at hx
            obtain ⟨w', r1, r2, r3, r4⟩ := clear_sound (type := type) ht0 q2 hz hsim hd hx
            refine ⟨g, w', .value (.tuple #[]), .tuple #[], ?_, .inl rfl, r2, r3, r4⟩
            rw [hex, hargs2]
            simp only [builtin, Sem.run_bind, r1, Result.andThen_ok]; rfl
          · cases hc
        · cases hc; cases hn
        · cases hc; cases hn
        · cases hc
  case convert s d x =>
    rcases hcl with h | ⟨y, h⟩
    · rw [h] at hn; cases hn
    · subst h; simp [aop] at hx
  all_goals (rw [hcl] at hn; cases hn)

end
end Den
