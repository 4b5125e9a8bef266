/- A memory as a list of words, and what one access does to it. No program in sight. -/
import Derived.Test.YtajdklfckcgifaaGreatSpecs
set_option maxRecDepth 100000
set_option linter.unusedSimpArgs false
set_option linter.unusedVariables false
namespace Den
open Go Go.Proofs

def wds (l : List Int) : List AV := l.map (AV.int .u64)
theorem wds_len (l : List Int) : (wds l).length = l.length := by simp [wds]
theorem wds_get (l : List Int) (i : Nat) : (wds l)[i]? = l[i]?.map (AV.int .u64) := by simp [wds]
theorem wds_set (l : List Int) (i : Nat) (v : Int) : (wds l).set i (.int .u64 v) = wds (l.set i v) := by simp [wds, List.map_set]
/-- The objects km, kb are a memory of the words W. -/
structure MemW (O : Mo) (km kb : Nat) (W : List Int) : Prop where
  m : O[km]? = some (.arr [.bref 0 kb 0 W.length W.length])
  b : O[kb]? = some (.buf 1 (wds W))
  n : 1 ≤ W.length
/-- O' has what O has, but for some objects. -/
def Ag (O O' : Mo) (l : List Nat) : Prop := O.length ≤ O'.length ∧ ∀ j, j < O.length → j ∉ l → O'[j]? = O[j]?
theorem Ag.refl (O : Mo) (l : List Nat) : Ag O O l := ⟨Nat.le_refl _, fun _ _ _ => rfl⟩
theorem Ag.trans {O O1 O2 : Mo} {l : List Nat} (h : Ag O O1 l) (h2 : Ag O1 O2 l) : Ag O O2 l :=
  ⟨Nat.le_trans h.1 h2.1, fun j hj hl => (h2.2 j (Nat.lt_of_lt_of_le hj h.1) hl).trans (h.2 j hj hl)⟩
theorem Ag.set (O : Mo) {k : Nat} (b : ABlk) {l : List Nat} (h : k ∈ l) : Ag O (O.set k b) l :=
  ⟨by simp, fun j hj hl => by
    have : k ≠ j := fun e => hl (e ▸ h)
    rw [List.getElem?_set_ne this]⟩
theorem Ag.app (O O2 : Mo) (l : List Nat) : Ag O (O ++ O2) l :=
  ⟨by simp, fun j hj _ => List.getElem?_append_left hj⟩
theorem Ag.get {O O' : Mo} {l : List Nat} (h : Ag O O' l) {k : Nat} {b : ABlk} (hk : O[k]? = some b) (hl : k ∉ l) : O'[k]? = some b := by
  obtain ⟨h1, _⟩ := List.getElem?_eq_some_iff.1 hk
  rw [h.2 k h1 hl, hk]
theorem get_of_lt {W : List Int} {i : Nat} (h : i < W.length) : ∃ x, W[i]? = some x := ⟨W[i], List.getElem?_eq_getElem h⟩
theorem app_last (O : Mo) (c : ABlk) : (O ++ [c])[O.length]? = some c := by simp
theorem lt_of_get {O : Mo} {k : Nat} {b : ABlk} (hk : O[k]? = some b) : k < O.length := (List.getElem?_eq_some_iff.1 hk).1
theorem app_get {O : Mo} {k : Nat} {b c : ABlk} (h : O[k]? = some b) : (O ++ [c])[k]? = some b := by
  rw [List.getElem?_append_left (lt_of_get h)]; exact h
theorem setS {O : Mo} {k : Nat} {b c : ABlk} (h : O[k]? = some b) : (O.set k c)[k]? = some c := by
  rw [List.getElem?_set_self (lt_of_get h)]
theorem setN {O : Mo} {k j : Nat} {c : ABlk} (h : k ≠ j) : (O.set k c)[j]? = O[j]? := List.getElem?_set_ne h
theorem MemW.ne {O : Mo} {km kb : Nat} {W : List Int} (h : MemW O km kb W) : km ≠ kb := fun e => by
  have := h.m; rw [e, h.b] at this; cases this
theorem MemW.ag {O O' : Mo} {km kb : Nat} {W : List Int} {l : List Nat} (h : MemW O km kb W) (g : Ag O O' l) (h1 : km ∉ l) (h2 : kb ∉ l) : MemW O' km kb W :=
  ⟨g.get h.m h1, g.get h.b h2, h.n⟩
theorem MemW.set {O : Mo} {km kb : Nat} {W : List Int} (h : MemW O km kb W) (i : Nat) (v : Int) : MemW (O.set kb (.buf 1 (wds (W.set i v)))) km kb (W.set i v) :=
  ⟨by rw [setN h.ne.symm, h.m]; simp, setS h.b, by simpa using h.n⟩
theorem MemW.memO {O : Mo} {km kb : Nat} {W : List Int} (h : MemW O km kb W) : memO O km 0 = some (kb, wds W) := by
  have H : MemO O km 0 kb [.bref 0 kb 0 (wds W).length (wds W).length] (wds W) := ⟨by rw [h.m, wds_len], rfl, h.b⟩
  exact H.memO
/-- An access of one word. -/
theorem do_load {O : Mo} {km kb : Nat} {W : List Int} (h : MemW O km kb W) {w x : Int} (h0 : 0 ≤ w) (hx : W[w.toNat]? = some x) :
    doS [.ref 0 km 0, acc 1 w 0 0] O = some (.tup [acc 1 w x x, .int .i64 0], O) := by
  have hl : w.toNat < W.length := (List.getElem?_eq_some_iff.1 hx).1
  have a1 : ¬ W.length = 0 := by have := h.n; omega
  have a2 : ¬ (w < 0 ∨ (W.length : Int) ≤ w) := by omega
  have a3 : ¬ ((1 : Int) < 1 ∨ (4 : Int) < 1) := by omega
  have a4 : ¬ ((1 : Int) = 2 ∨ (1 : Int) = 4 ∨ ((1 : Int) = 3 ∧ x = 0)) := by omega
  simp only [doS, acc, h.memO, wds_len, if_neg a1, if_neg a2, if_neg a3, wds_get, hx, Option.map_some, if_neg a4]
theorem do_store {O : Mo} {km kb : Nat} {W : List Int} (h : MemW O km kb W) {w x v : Int} (h0 : 0 ≤ w) (hx : W[w.toNat]? = some x) :
    doS [.ref 0 km 0, acc 2 w 0 v] O = some (.tup [acc 2 w x v, .int .i64 0], O.set kb (.buf 1 (wds (W.set w.toNat v)))) := by
  have hl : w.toNat < W.length := (List.getElem?_eq_some_iff.1 hx).1
  have a1 : ¬ W.length = 0 := by have := h.n; omega
  have a2 : ¬ (w < 0 ∨ (W.length : Int) ≤ w) := by omega
  have a3 : ¬ ((2 : Int) < 1 ∨ (4 : Int) < 2) := by omega
  have a4 : ((2 : Int) = 2 ∨ (2 : Int) = 4 ∨ ((2 : Int) = 3 ∧ x = 0)) := by omega
  simp only [doS, acc, h.memO, wds_len, if_neg a1, if_neg a2, if_neg a3, wds_get, hx, Option.map_some, wds_set]
  simp
/-- An object that makes one access. -/
def isOnce (O : Mo) (ko km : Nat) : Prop := O[ko]? = some (.arr [.ref 0 km 0, .int .i64 0, .int .i64 0, .int .u64 0, .int .u64 0])
end Den

/- The plain queue lock's programs as functions of the words. -/
set_option maxRecDepth 100000
set_option linter.unusedSimpArgs false
set_option linter.unusedVariables false
namespace Den
open Go Go.Proofs

/-- The queue nodes: the first word, and how many threads. -/
structure NodesO (O : Mo) (kn : Nat) (b t : Int) : Prop where
  o : O[kn]? = some (.arr [.int .i64 b, .int .i64 t])
  t1 : 1 ≤ t
  t2 : t ≤ 64
  b1 : 0 ≤ b
  b2 : b ≤ 65536
  b3 : 16 ≤ b
theorem NodesO.ag {O O' : Mo} {kn : Nat} {b t : Int} {l : List Nat} (h : NodesO O kn b t) (g : Ag O O' l) (h1 : kn ∉ l) : NodesO O' kn b t := ⟨g.get h.o h1, h.t1, h.t2, h.b1, h.b2, h.b3⟩
theorem ne_get {O : Mo} {a b : Nat} {x y : ABlk} (h1 : O[a]? = some x) (h2 : O[b]? = some y) (h : x ≠ y) : a ≠ b := fun e => by
  subst e; rw [h1] at h2; cases h2; exact h rfl
/-- A program of the lock. -/
def subB (kn : Nat) (lk nd pc ot : Int) (en : Bool) : ABlk := .arr [.ref 0 kn 0, .int .i64 lk, .int .i64 nd, .int .i64 pc, .int .u64 ot, .bool en]
def SubO (O : Mo) (ka kn : Nat) (lk nd pc ot : Int) (en : Bool) : Prop := O[ka]? = some (subB kn lk nd pc ot en)
/-- What stands where. -/
structure Wh (O : Mo) (km kb ko ka kn : Nat) (W : List Int) (b t lk nd pc ot : Int) (en : Bool) : Prop where
  M : MemW O km kb W
  G : isOnce O ko km
  N : NodesO O kn b t
  A : SubO O ka kn lk nd pc ot en
namespace Wh
variable {O : Mo} {km kb ko ka kn : Nat} {W : List Int} {b t lk nd pc ot : Int} {en : Bool}
theorem ao (h : Wh O km kb ko ka kn W b t lk nd pc ot en) : ka ≠ ko := ne_get h.A h.G (by simp [subB])
theorem an (h : Wh O km kb ko ka kn W b t lk nd pc ot en) : ka ≠ kn := ne_get h.A h.N.o (by simp [subB])
theorem no (h : Wh O km kb ko ka kn W b t lk nd pc ot en) : kn ≠ ko := ne_get h.N.o h.G (by simp)
end Wh
/-- What a step has led to. -/
structure To (O O' : Mo) (km kb ko ka kn : Nat) (W : List Int) (lk nd pc ot : Int) (en : Bool) : Prop where
  ag : Ag O O' [ko, kb, ka]
  M : MemW O' km kb W
  A : SubO O' ka kn lk nd pc ot en
theorem Ag.mono {O O' : Mo} {l l2 : List Nat} (h : Ag O O' l) (g : ∀ x ∈ l, x ∈ l2) : Ag O O' l2 := ⟨h.1, fun j hj hl => h.2 j hj fun hx => hl (g j hx)⟩
end Den

/- What an arena with an empty tree has, word by word. -/
set_option maxRecDepth 100000
set_option maxHeartbeats 1000000
set_option linter.unusedSimpArgs false
set_option linter.unusedVariables false
namespace Den
open Go Go.Proofs

/-- Words by their places. -/
structure Wg (W : List Int) (n : Nat) (g : Nat → Int) : Prop where
  len : W.length = n
  get : ∀ i, i < n → W[i]? = some (g i)
theorem Wg.set {W : List Int} {n : Nat} {g g' : Nat → Int} (h : Wg W n g) (j : Nat) (v : Int) (hg : ∀ i, i < n → g' i = if i = j then v else g i) : Wg (W.set j v) n g' where
  len := by rw [List.length_set, h.len]
  get i hi := by
    rw [hg i hi]
    by_cases e : i = j
    · subst e; rw [List.getElem?_set_self (by rw [h.len]; exact hi), if_pos rfl]
    · rw [List.getElem?_set_ne (fun e2 => e e2.symm), if_neg e, h.get i hi]
theorem Wg.congr {W : List Int} {n : Nat} {g g' : Nat → Int} (h : Wg W n g) (hg : ∀ i, i < n → g' i = g i) : Wg W n g' :=
  ⟨h.len, fun i hi => by rw [hg i hi, h.get i hi]⟩
theorem wg_rep (n : Nat) : Wg (List.replicate n 0) n (fun _ => 0) := ⟨by simp, fun i hi => by simp [hi]⟩

theorem wset_ok {O : Mo} {k kb : Nat} {W : List Int} (h : MemW O k kb W) {i v : Int} (h0 : 0 ≤ i) (h1 : i < W.length) :
    ∃ O', wsetS [.agg [.ref 0 k 0], .int .i64 i, .int .u64 v] O = some (.tup [], O') ∧ Ag O O' [kb] ∧ MemW O' k kb (W.set i.toNat v) ∧ O'.length = O.length := by
  obtain ⟨x, hx⟩ := get_of_lt (W := W) (i := i.toNat) (by omega)
  have e := do_store (v := v) h h0 hx
  unfold acc at e
  exact ⟨_, by simp only [wsetS, storeS, acc, e], Ag.set _ _ (by simp), h.set _ _, by simp⟩
theorem wget_ok {O : Mo} {k kb : Nat} {W : List Int} (h : MemW O k kb W) {i x : Int} (h0 : 0 ≤ i) (hx : W[i.toNat]? = some x) :
    wgetS [.agg [.ref 0 k 0], .int .i64 i] O = some (.int .u64 x, O) := by
  have e := do_load h h0 hx
  unfold acc at e
  simp only [wgetS, loadS, acc, e]
theorem wds_isW (W : List Int) : (wds W).all isW = true := by
  simp [wds, isW]
theorem memcopy_ok {O : Mo} {k kb : Nat} {W : List Int} (h : MemW O k kb W) (hl : W.length ≤ 65536) :
    ∃ O', memCopyS [.ref 0 k 0] O = some (.ref 0 (O.length + 1) 0, O') ∧ MemW O' (O.length + 1) O.length W ∧ Ag O O' [] ∧ O'.length = O.length + 2 := by
  have a1 : ¬ W.length = 0 := by have := h.n; omega
  have e1 : zeroS [.ref 0 k 0] O = some (.bool false, O) := by simp only [zeroS, h.memO, wds_len, a1, decide_false]
  have e2 : cloneS [.bref 0 kb 0 W.length W.length] O = some (.bref 0 O.length 0 W.length W.length, O ++ [.buf 1 (wds W)]) := by
    simp only [cloneS, h.b, if_true, wds_len, if_pos hl, wds_isW, if_pos h.n]
  refine ⟨(O ++ [.buf 1 (wds W)]) ++ [.arr [.bref 0 O.length 0 W.length W.length]], ?_, ⟨?_, ?_, h.n⟩, (Ag.app _ _ _).trans (Ag.app _ _ _), by simp⟩
  · simp only [memCopyS, e1, h.m, e2]
    simp
  · simp
  · exact app_get (app_last O _)

/-! arena.Format -/
/-- The words of an arena whose pages are free: those up to q are linked. -/
def fmtL (p : Int) (q : Int) (i : Nat) : Int :=
  if i = 0 then p else if i = 1 then 1 else if i = 4 then 1 else if 26 ≤ i ∧ (i - 16) % 128 = 10 ∧ ((i - 16) / 128 : Nat) + 1 < q then ((i - 16) / 128 : Nat) + 2 else 0
theorem fmtB_ok {kc kb : Nat} {p : Int} {n : Nat} (hp : 1 ≤ p ∧ p ≤ 511) (hn : 16 + 128 * p ≤ n) : ∀ (m : Nat) (q : Int) (O : Mo) (W : List Int), 1 ≤ q → q ≤ p → q + m = p + 1 → MemW O kc kb W → Wg W n (fmtL p q) →
    ∃ O' W', fmtB kc p m q O = some (.tup [.ref 0 O.length 0, .int .i64 0], O' ++ [.arr [.ref 0 kc 0]]) ∧ Ag O O' [kb] ∧ MemW O' kc kb W' ∧ Wg W' n (fmtL p p) ∧ O'.length = O.length := by
  intro m
  induction m with
  | zero => intro q O W h1 h3 h2 hM hW; omega
  | succ m ih =>
    intro q O W h1 h3 h2 hM hW
    by_cases hq : q < p
    · obtain ⟨O1, e1, g1, m1, l1⟩ := wset_ok (i := 16 + 128 * (q - 1) + 10) (v := q + 1) hM (by omega) (by rw [hW.len]; omega)
      obtain ⟨O2, W2, e2, g2, m2, w2, l2⟩ := ih (q + 1) O1 _ (by omega) (by omega) (by omega) m1 (hW.set (g' := fmtL p (q + 1)) _ _ (fun i hi => by
        unfold fmtL
        by_cases e : i = (16 + 128 * (q - 1) + 10).toNat
        · rw [if_pos e, if_neg (by omega), if_neg (by omega), if_neg (by omega), if_pos (by omega)]; omega
        · rw [if_neg e]
          by_cases c : i = 0
          · rw [if_pos c, if_pos c]
          rw [if_neg c, if_neg c]
          by_cases c : i = 1
          · rw [if_pos c, if_pos c]
          rw [if_neg c, if_neg c]
          by_cases c : i = 4
          · rw [if_pos c, if_pos c]
          rw [if_neg c, if_neg c]
          by_cases c : 26 ≤ i ∧ (i - 16) % 128 = 10 ∧ ((i - 16) / 128 : Nat) + 1 < q
          · rw [if_pos c, if_pos (by omega)]
          · rw [if_neg c, if_neg (by omega)]))
      refine ⟨O2, W2, ?_, g1.trans g2, m2, w2, by omega⟩
      have : ¬ q < 1 := by omega
      rw [fmtB, if_pos hq, if_neg this]
      simp only [e1, e2, l1]
    · obtain rfl : q = p := by omega
      refine ⟨O, W, ?_, Ag.refl _ _, hM, hW, rfl⟩
      rw [fmtB, if_neg hq]
theorem fmtA_ok {kc kb : Nat} {p bound : Int} {n : Nat} (hp : 1 ≤ p ∧ p ≤ 511) (hb : bound = 16 + 128 * p) (hn : bound ≤ n) : ∀ (m : Nat) (i : Int) (O : Mo), 0 ≤ i → i + m = bound → MemW O kc kb (List.replicate n 0) →
    ∃ O' W', fmtA kc p bound m i O = some (.tup [.ref 0 O.length 0, .int .i64 0], O' ++ [.arr [.ref 0 kc 0]]) ∧ Ag O O' [kb] ∧ MemW O' kc kb W' ∧ Wg W' n (fmtL p p) ∧ O'.length = O.length := by
  intro m
  induction m with
  | zero =>
    intro i O h0 hi hM
    have hlt : ¬ i < bound := by omega
    obtain ⟨O1, e1, g1, m1, l1⟩ := wset_ok (i := 0) (v := p) hM (by omega) (by simp; omega)
    obtain ⟨O2, e2, g2, m2, l2⟩ := wset_ok (i := 1) (v := 1) m1 (by omega) (by simp; omega)
    obtain ⟨O3, e3, g3, m3, l3⟩ := wset_ok (i := 4) (v := 1) m2 (by omega) (by simp; omega)
    obtain ⟨O4, W4, e4, g4, m4, w4, l4⟩ := fmtB_ok hp (n := n) (by omega) p.toNat 1 O3 _ (by omega) (by omega) (by omega) m3
      ((((wg_rep n).set (g' := fun i => if i = 0 then p else 0) _ _ (fun i hi => rfl)).set (g' := fun i => if i = 1 then 1 else if i = 0 then p else 0) _ _ (fun i hi => rfl)).set (g' := fmtL p 1) _ _ (fun i hi => by
        unfold fmtL
        show _ = if i = 4 then 1 else if i = 1 then 1 else if i = 0 then p else 0
        by_cases c0 : i = 0
        · subst c0; simp
        by_cases c1 : i = 1
        · subst c1; simp
        rw [if_neg c0, if_neg c1, if_neg c1, if_neg c0]
        by_cases c4 : i = 4
        · rw [if_pos c4, if_pos c4]
        rw [if_neg c4, if_neg c4, if_neg (by omega)]))
    refine ⟨O4, W4, ?_, ((g1.trans g2).trans g3).trans g4, m4, w4, by omega⟩
    rw [fmtA, if_neg hlt]
    simp only [e1, e2, e3, e4, l1, l2, l3]
  | succ m ih =>
    intro i O h0 hi hM
    have hlt : i < bound := by omega
    obtain ⟨O1, e1, g1, m1, l1⟩ := wset_ok (i := i) (v := 0) hM (by omega) (by simp; omega)
    rw [show (List.replicate n (0 : Int)).set i.toNat 0 = List.replicate n 0 by simp] at m1
    obtain ⟨O4, W4, e4, g4, m4, w4, l4⟩ := ih (i + 1) O1 (by omega) (by omega) m1
    refine ⟨O4, W4, ?_, g1.trans g4, m4, w4, by omega⟩
    rw [fmtA, if_pos hlt, if_pos h0]
    simp only [e1, e4, l1]
theorem wds_rep (n : Nat) : wds (List.replicate n 0) = repCells [.int .u64 0] n := by
  rw [rep_eq]; simp [wds]
/-! The page that is put -/
def w0 (i : Nat) : Int := if i = 8 then 1 else if i = 11 then 128 else 0
theorem P0_get (i : Nat) (h : i < 128) : P0[i]? = some (.int .u64 (w0 i)) := by
  have : ∀ i, i < 128 → W0[i]? = some (w0 i) := by decide +kernel
  unfold P0
  rw [List.getElem?_map, this i h]; rfl
/-- The words behind the beginning of a page that is put: those up to one. -/
def fmtP (p : Int) (j : Nat) (i : Nat) : Int :=
  if i = 1 then (if 1 < p then 2 else 0) else if 24 ≤ i ∧ i < 16 + j then w0 (i - 16) else fmtL p p i
theorem putG_ok {ka kc kb : Nat} {p : Int} {n : Nat} (hp : 1 ≤ p ∧ p ≤ 511) (hn : 16 + 128 * p ≤ n) : ∀ (m : Nat) (j : Nat) (O : Mo) (W : List Int), 8 ≤ j → j + m = 128 → O[ka]? = some (.arr [.ref 0 kc 0]) → ka ≠ kb → MemW O kc kb W → Wg W n (fmtP p j) →
    ∃ O' W', putG ka 1 P0 m j O = some (.tup [], O') ∧ Ag O O' [kb] ∧ MemW O' kc kb W' ∧ Wg W' n (fmtP p 128) ∧ O'.length = O.length := by
  intro m
  induction m with
  | zero =>
    intro j O W h1 h2 hK hne hM hW
    obtain rfl : j = 128 := by omega
    refine ⟨O, W, ?_, Ag.refl _ _, hM, hW, rfl⟩
    rw [putG, if_neg (by omega)]
  | succ m ih =>
    intro j O W h1 h2 hK hne hM hW
    obtain ⟨O1, e1, g1, m1, l1⟩ := wset_ok (i := 16 + 128 * (1 - 1) + (j : Int)) (v := w0 j) hM (by omega) (by rw [hW.len]; omega)
    obtain ⟨O2, W2, e2, g2, m2, w2, l2⟩ := ih (j + 1) O1 _ (by omega) (by omega) (g1.get hK (by simpa using hne)) hne m1 (hW.set (g' := fmtP p (j + 1)) _ _ (fun i hi => by
      unfold fmtP
      by_cases e : i = (16 + 128 * (1 - 1) + (j : Int)).toNat
      · rw [if_pos e, if_neg (by omega), if_pos (by omega)]; congr 1; omega
      · rw [if_neg e]
        by_cases c : i = 1
        · rw [if_pos c, if_pos c]
        rw [if_neg c, if_neg c]
        by_cases c : 24 ≤ i ∧ i < 16 + j
        · rw [if_pos c, if_pos (by omega)]
        · rw [if_neg c, if_neg (by omega)]))
    refine ⟨O2, W2, ?_, g1.trans g2, m2, w2, by omega⟩
    rw [putG, if_pos (by omega), if_pos (by omega), hK]
    simp only [show ((j : Int)).toNat = j by omega, P0_get j (by omega), e1]
    rw [show ((j : Int) + 1) = ((j + 1 : Nat) : Int) by omega, e2]
/-- The words of an arena with an empty tree. -/
def fmtG (p : Int) (i : Nat) : Int := if i = 3 then 1 else fmtP p 128 i
theorem fmtG_end {p : Int} {i : Nat} (h0 : 1 ≤ p) (h1 : 16 + 128 * p ≤ i) : fmtG p i = 0 := by
  unfold fmtG fmtP fmtL
  rw [if_neg (by omega), if_neg (by omega), if_neg (by omega), if_neg (by omega), if_neg (by omega), if_neg (by omega), if_neg (by omega)]

theorem format_ok (O : Mo) (p t : Int) (hp : 1 ≤ p ∧ p ≤ 511) (ht : 1 ≤ t ∧ t ≤ 17) :
    ∃ km kb O' W, formatS [.agg [.int .i64 p, .int .i64 t]] O = some (.tup [.ref 0 km 0, .int .i64 0], O') ∧ MemW O' km kb W ∧ Wg W (16 + 128 * p + t * 2 * 3).toNat (fmtG p) ∧ Ag O O' [] ∧ O.length ≤ km ∧ O.length ≤ kb := by
  have d1 : ¬ p < 1 := by omega
  have d2 : ¬ 511 < p := by omega
  have d3 : ¬ t < 1 := by omega
  have d4 : ¬ 17 < t := by omega
  have d5 : 1 ≤ p ∧ p ≤ 511 ∧ 1 ≤ t ∧ t ≤ 17 := by omega
  have e1 : dWordsS [.agg [.int .i64 p, .int .i64 t]] O = some (.tup [.int .i64 (16 + 128 * p + t * 2 * 3), .int .i64 0], O) := by
    simp only [dWordsS, dvalidS, if_neg d1, if_neg d2, if_neg d3, if_neg d4, if_pos d5]
  generalize hN : 16 + 128 * p + t * 2 * 3 = N at e1 ⊢
  have n1 : ¬ N < 1 := by omega
  have n2 : ¬ 65536 < N := by omega
  have e2 : newMemS [.int .i64 N] O = some (.tup [.ref 0 (O.length + 1) 0, .int .i64 0], O ++ [.buf 1 (repCells [.int .u64 0] N.toNat)] ++ [.arr [.bref 0 O.length 0 N.toNat N.toNat]]) := by
    simp only [newMemS, if_neg n1, if_neg n2]; simp
  obtain ⟨O1, hO1⟩ : ∃ O1, O1 = O ++ [.buf 1 (repCells [.int .u64 0] N.toNat)] ++ [.arr [.bref 0 O.length 0 N.toNat N.toNat]] := ⟨_, rfl⟩
  have M1 : MemW O1 (O.length + 1) O.length (List.replicate N.toNat 0) := by
    rw [hO1]
    refine ⟨?_, ?_, ?_⟩
    · simp
    · rw [wds_rep]; exact app_get (app_last O _)
    · simp; omega
  have G1 : Ag O O1 [] := by rw [hO1]; exact (Ag.app _ _ _).trans (Ag.app _ _ _)
  have L1 : O1.length = O.length + 2 := by rw [hO1]; simp
  rw [← hO1] at e2
  -- arena.Format
  have hlen : (List.replicate N.toNat (0 : Int)).length = N.toNat := by simp
  have el : lenS [.ref 0 (O.length + 1) 0] O1 = some (.int .i64 N.toNat, O1) := by
    have m := M1.m; have b := M1.b
    rw [hlen] at m
    have : ¬ N.toNat = 0 := by omega
    simp only [lenS, m, b, if_true, wds_len, hlen, if_neg this]
  obtain ⟨O2, e3, M2, G2, L2⟩ := memcopy_ok M1 (by rw [hlen]; omega)
  obtain ⟨O3, W3, e4, G3, M3, w3, L3⟩ := fmtA_ok (kc := O1.length + 1) (kb := O1.length) (p := p) (bound := 16 + 128 * (p + 1 - 1) + 0) (n := N.toNat) hp (by omega) (by omega) (16 + 128 * p).toNat 0 O2 (by omega) (by omega) M2
  have e5 : aFormatS [.ref 0 (O.length + 1) 0, .int .i64 p] O1 = some (.tup [.ref 0 O2.length 0, .int .i64 0], O3 ++ [.arr [.ref 0 (O1.length + 1) 0]]) := by
    have a1 : ¬ ((N.toNat : Int) = 0) := by omega
    have a2 : ¬ ((N.toNat : Int) < 16 + 128 * (p + 1 - 1) + 0) := by omega
    simp only [aFormatS, el, if_neg a1, if_neg d1, if_neg d2, if_neg a2, e3, e4]
  obtain ⟨O4, hO4⟩ : ∃ O4, O4 = O3 ++ [ABlk.arr [.ref 0 (O1.length + 1) 0]] := ⟨_, rfl⟩
  rw [← hO4] at e5
  have M4 : MemW O4 (O1.length + 1) O1.length W3 := by rw [hO4]; exact M3.ag (Ag.app _ _ []) (by simp) (by simp)
  have K4 : O4[O2.length]? = some (.arr [.ref 0 (O1.length + 1) 0]) := by rw [hO4, ← L3]; exact app_last _ _
  have G4 : Ag O O4 [] := by
    refine ⟨by have := G1.1; rw [hO4]; simp; omega, fun j hj _ => ?_⟩
    rw [hO4, List.getElem?_append_left (by omega), G3.2 j (by omega) (by simp; omega), G2.2 j (by omega) (by simp), G1.2 j hj (by simp)]
  have N4 : O2.length ≠ O1.length := by omega
  -- Alloc
  have v1 : W3[(1 : Int).toNat]? = some 1 := by
    rw [show (1 : Int).toNat = 1 from rfl, w3.get 1 (by omega)]; rfl
  have eg1 := wget_ok (i := 1) M4 (by omega) v1
  have v2 : W3[(16 + 128 * (1 - 1) + 10 : Int).toNat]? = some (if 1 < p then 2 else 0) := by
    rw [show (16 + 128 * (1 - 1) + 10 : Int).toNat = 26 from rfl, w3.get 26 (by omega)]
    unfold fmtL
    by_cases c : 1 < p
    · rw [if_pos c, if_neg (by omega), if_neg (by omega), if_neg (by omega), if_pos (by omega)]; rfl
    · rw [if_neg c, if_neg (by omega), if_neg (by omega), if_neg (by omega), if_neg (by omega)]
  have eg2 := wget_ok (i := 16 + 128 * (1 - 1) + 10) M4 (by omega) v2
  obtain ⟨O5, e6, G5, M5, L5⟩ := wset_ok (i := 1) (v := if 1 < p then 2 else 0) M4 (by omega) (by rw [w3.len]; omega)
  have w5 : Wg (W3.set (1 : Int).toNat (if 1 < p then 2 else 0)) N.toNat (fmtP p 8) := w3.set _ _ (fun i hi => by
    unfold fmtP
    rw [show (1 : Int).toNat = 1 from rfl]
    by_cases c : i = 1
    · rw [if_pos c, if_pos c]
    · rw [if_neg c, if_neg c, if_neg (by omega)])
  have K5 := G5.get K4 (by simpa using N4)
  obtain ⟨O6, W6, e7, G6, M6, w6, L6⟩ := putG_ok (ka := O2.length) hp (by omega) 120 8 O5 _ (by omega) (by omega) K5 N4 M5 w5
  have K6 := G6.get K5 (by simpa using N4)
  have e8 : aallocS [.ref 0 O2.length 0, .agg P0] O4 = some (.tup [.int .i64 1, .int .i64 0], O6) := by
    have p1 : P0.length = 128 := by decide +kernel
    have p2 : P0.all isW = true := by decide +kernel
    have p3 : chkW W0 P0 = true := by decide +kernel
    have p4 : (1 : Int) ≤ 1 ∧ (1 : Int) ≤ 511 := by omega
    rw [show ((8 : Nat) : Int) = 8 from rfl] at e7
    simp only [aallocS, if_pos p1, p2, if_true, anoneS, K4, slotValidS, p3, eg1, if_pos p4, eg2, e6, aputS, show ((1 : Int).toNat - (1 : Int).toNat + 120) = 120 from rfl, e7]
  -- SetRoot
  have b0 : W6[(0 : Int).toNat]? = some p := by
    rw [show (0 : Int).toNat = 0 from rfl, w6.get 0 (by omega)]; rfl
  have eh0 := wget_ok (i := 0) M6 (by omega) b0
  have b1 : W6[(16 + 128 * (1 - 1) + 8 : Int).toNat]? = some 1 := by
    rw [show (16 + 128 * (1 - 1) + 8 : Int).toNat = 24 from rfl, w6.get 24 (by omega)]; rfl
  have eh1 := wget_ok (i := 16 + 128 * (1 - 1) + 8) M6 (by omega) b1
  obtain ⟨O7, e9, G7, M7, L7⟩ := wset_ok (i := 3) (v := 1) M6 (by omega) (by rw [w6.len]; omega)
  have K7 := G7.get K6 (by simpa using N4)
  have w7 : Wg (W6.set (3 : Int).toNat 1) N.toNat (fmtG p) := w6.set _ _ (fun i hi => by
    unfold fmtG
    rw [show (3 : Int).toNat = 3 from rfl])
  have e10 : asetRootS [.ref 0 O2.length 0, .int .i64 1] O6 = some (.int .i64 0, O7) := by
    have p4 : (1 : Int) ≤ 1 ∧ (1 : Int) ≤ 1000 := by omega
    have p5 : (0 : Int) ≤ p ∧ p ≤ 1000 := by omega
    have p6 : (0 : Int) ≤ 1 ∧ (1 : Int) ≤ 1000 := by omega
    have p7 : ¬ (1 : Int) < 1 := by omega
    have p8 : (1 : Int) ≤ 1 := by omega
    have p9 : (1 : Int) ≤ 6 := by omega
    have q1 : anoneS [.ref 0 O2.length 0] O6 = some (.bool false, O6) := by simp only [anoneS, K6]
    have q2 : apagesS [.ref 0 O2.length 0] O6 = some (.int .i64 p, O6) := by simp only [apagesS, K6, eh0, if_pos p5]
    have q3 : athereS [.ref 0 O2.length 0, .int .i64 1] O6 = some (.int .i64 0, O6) := by simp only [athereS, q1, if_neg p7, q2, if_neg d1]
    have q4 : ausedS [.ref 0 O2.length 0, .int .i64 1] O6 = some (.bool true, O6) := by simp only [ausedS, akindS, K6, if_pos p6, eh1, if_pos p8, if_pos p9]
    have q5 : abusyS [.ref 0 O2.length 0, .int .i64 1, .bool false] O6 = some (.int .i64 0, O6) := by simp only [abusyS, q3, if_true, q4]
    simp only [asetRootS, q1, if_pos p4, q5, if_true, K6, e9]
  -- Mem
  obtain ⟨O8, e11, M8, G8, L8⟩ := memcopy_ok M7 (by rw [w7.len]; omega)
  have e12 : amemS [.ref 0 O2.length 0] O7 = some (.ref 0 (O7.length + 1) 0, O8) := by
    simp only [amemS, anoneS, K7, e11]
  have g1 := G1.1
  refine ⟨O7.length + 1, O7.length, O8, _, ?_, M8, w7, ?_, by rw [L7, L6, L5]; have := G4.1; omega, by rw [L7, L6, L5]; have := G4.1; omega⟩
  · have p1 : P0.length = 128 := by decide +kernel
    have p2 : P0.all isW = true := by decide +kernel
    have es : slotMakeS [.int .i64 0, .str [], .str []] O4 = some (.tup [.agg P0, .int .i64 0], O4) := by
      simp [slotMakeS]
    simp only [formatS, e1, if_true, e2, e5, es, if_pos p1, p2, e8, e10, e12]
  · refine ⟨by have := G8.1; have := G4.1; omega, fun j hj _ => ?_⟩
    have := G4.1
    rw [G8.2 j (by omega) (by simp), G7.2 j (by omega) (by simp; omega), G6.2 j (by omega) (by simp; omega), G5.2 j (by omega) (by simp; omega), G4.2 j hj (by simp)]
/-- A layout that is not allowed. -/
theorem format_bad (O : Mo) (p t : Int) (h : ¬ (1 ≤ p ∧ p ≤ 511 ∧ 1 ≤ t ∧ t ≤ 17)) : formatS [.agg [.int .i64 p, .int .i64 t]] O = some (.tup [.nilp, .int .i64 2], O) := by
  have : dWordsS [.agg [.int .i64 p, .int .i64 t]] O = some (.tup [.int .i64 0, .int .i64 2], O) := by
    simp only [dWordsS, dvalidS]
    by_cases d1 : p < 1
    · simp only [if_pos d1]
    by_cases d2 : 511 < p
    · simp only [if_neg d1, if_pos d2]
    by_cases d3 : t < 1
    · simp only [if_neg d1, if_neg d2, if_pos d3]
    by_cases d4 : 17 < t
    · simp only [if_neg d1, if_neg d2, if_neg d3, if_pos d4]
    omega
  simp only [formatS, this]
  simp
theorem dnodes_ok (O : Mo) (p t : Int) (hp : 1 ≤ p ∧ p ≤ 511) (ht : 1 ≤ t ∧ t ≤ 17) : dNodesS [.agg [.int .i64 p, .int .i64 t]] O = some (.tup [.ref 0 O.length 0, .int .i64 0], O ++ [.arr [.int .i64 (16 + 128 * p), .int .i64 t]]) := by
  have d1 : ¬ p < 1 := by omega
  have d2 : ¬ 511 < p := by omega
  have d3 : ¬ t < 1 := by omega
  have d4 : ¬ 17 < t := by omega
  simp only [dNodesS, if_neg d1, if_neg d2, if_neg d3, if_neg d4]
theorem dnodes_bad (O : Mo) (p t : Int) (h : ¬ (1 ≤ p ∧ p ≤ 511 ∧ 1 ≤ t ∧ t ≤ 17)) : dNodesS [.agg [.int .i64 p, .int .i64 t]] O = some (.tup [.nilp, .int .i64 2], O) := by
  by_cases d1 : p < 1
  · simp only [dNodesS, if_pos d1]
  by_cases d2 : 511 < p
  · simp only [dNodesS, if_neg d1, if_pos d2]
  by_cases d3 : t < 1
  · simp only [dNodesS, if_neg d1, if_neg d2, if_pos d3]
  by_cases d4 : 17 < t
  · simp only [dNodesS, if_neg d1, if_neg d2, if_neg d3, if_pos d4]
  omega
end Den
