/- GateHolds: the answer is yes. -/
import Derived.Test.YtiecdchfnenldaaGreatDenGR
import Derived.Test.YtiecdchfnenldaaGreatErrS
import Derived.Test.YtiecdchfnenldaaGreatDenArgs
import Derived.Test.YtiecdchfnenldaaGreatAbsS
set_option maxRecDepth 100000
set_option maxHeartbeats 1000000
set_option linter.unusedSimpArgs false
set_option linter.unusedVariables false
namespace Den
open Go Go.Proofs

/-- A program that waits. -/
def wst (l mo : Int) : GP := ⟨15, relT, l, true, mo, 2, 0, true⟩
def Pw (O : Mo) (k : Nat) (b t th mo : Int) : Prop := ∃ ka kn l, Gn O k ka kn b t th (wst l mo)
/-- The objects that are no cells of structs. -/
def noArr (O : Mo) (l : List Nat) : Prop := ∀ x ∈ l, ∀ cs, O[x]? ≠ some (.arr cs)
theorem Gn.keep {O O' : Mo} {k ka kn : Nat} {b t th : Int} {p : GP} {l : List Nat} (h : Gn O k ka kn b t th p) (g : Ag O O' l) (hn : noArr O l) : Gn O' k ka kn b t th p :=
  h.ag g (fun hx => hn _ hx _ h.K) (fun hx => hn _ hx _ h.A) (fun hx => hn _ hx _ h.N.o)
theorem Pw.keep {O O' : Mo} {k : Nat} {b t th mo : Int} {l : List Nat} (h : Pw O k b t th mo) (g : Ag O O' l) (hn : noArr O l) : Pw O' k b t th mo := by
  obtain ⟨ka, kn, l', h⟩ := h; exact ⟨ka, kn, l', h.keep g hn⟩
theorem noArr_nil (O : Mo) : noArr O [] := fun x hx => by simp at hx
/-- Another thread's program. -/
theorem Gn.other {O O' : Mo} {km kb k ka kn k2 ka2 kn2 : Nat} {W : List Int} {b t th th2 : Int} {p p2 : GP} (h : Gn O k ka kn b t th p) (h2 : Gn O k2 ka2 kn2 b t th2 p2) (m : MemW O km kb W) (hne : th ≠ th2) (g : Ag O O' [kb, ka2, k2]) : Gn O' k ka kn b t th p := by
  refine h.ag g ?_ ?_ ?_
  · have n1 : k ≠ kb := ne_get h.K m.b (by simp [gtB])
    have n2 : k ≠ ka2 := ne_get h.K h2.A (by simp [gtB, subB])
    have n3 : k ≠ k2 := ne_get h.K h2.K (by unfold gtB; intro e; simp at e; omega)
    simp [n1, n2, n3]
  · have n1 : ka ≠ kb := ne_get h.A m.b (by simp [subB])
    have n2 : ka ≠ ka2 := ne_get h.A h2.A (by unfold subB; intro e; simp at e; omega)
    have n3 : ka ≠ k2 := ne_get h.A h2.K (by simp [gtB, subB])
    simp [n1, n2, n3]
  · have n1 : kn ≠ kb := ne_get h.N.o m.b (by simp)
    have n2 : kn ≠ ka2 := ne_get h.N.o h2.A (by simp [subB])
    have n3 : kn ≠ k2 := ne_get h.N.o h2.K (by simp [gtB])
    simp [n1, n2, n3]
theorem own_getR {O : Mo} {v : AV} {l : List Nat} (h : GrR O v l) : ∀ x ∈ own v, O[x]? = some (.buf 1 (refs l)) := by
  rcases h with ⟨rfl, rfl⟩ | ⟨k, rfl, hk⟩
  · intro x hx; simp [own] at hx
  · intro x hx; simp only [own, List.mem_singleton] at hx; subst hx; exact hk
theorem GrI.ag {O O' : Mo} {v : AV} {l : List Int} {L : List Nat} (h : GrI O v l) (g : Ag O O' L) (hn : ∀ x ∈ own v, x ∉ L) : GrI O' v l := by
  rcases h with ⟨rfl, rfl⟩ | ⟨k, rfl, hk⟩
  · exact Or.inl ⟨rfl, rfl⟩
  · exact Or.inr ⟨k, rfl, g.get hk (hn k (by simp [own]))⟩
theorem GrR.ag {O O' : Mo} {v : AV} {l : List Nat} {L : List Nat} (h : GrR O v l) (g : Ag O O' L) (hn : ∀ x ∈ own v, x ∉ L) : GrR O' v l := by
  rcases h with ⟨rfl, rfl⟩ | ⟨k, rfl, hk⟩
  · exact Or.inl ⟨rfl, rfl⟩
  · exact Or.inr ⟨k, rfl, g.get hk (hn k (by simp [own]))⟩
theorem GrI.slLn {O : Mo} {v : AV} {l : List Int} (h : GrI O v l) : slLn v = true ∧ v ≠ .emp := by
  rcases h with ⟨rfl, rfl⟩ | ⟨k, rfl, hk⟩
  · exact ⟨rfl, by simp⟩
  · exact ⟨rfl, by simp⟩
theorem refs_wds {l : List Nat} {W : List Int} (h : 1 ≤ W.length) : refs l ≠ wds W := by
  intro e
  cases W with
  | nil => simp at h
  | cons x W =>
    cases l with
    | nil => simp [refs, wds] at e
    | cons y l => simp [refs, wds] at e
theorem own_runR {O : Mo} {km kb k ka kn : Nat} {W : List Int} {b t th : Int} {p : GP} (m : MemW O km kb W) (h : Gn O k ka kn b t th p) {v : AV} {l : List Nat} (g : GrR O v l) : ∀ x ∈ own v, x ∉ [kb, ka, k] := by
  intro x hx
  have e := own_getR g x hx
  have n1 : x ≠ kb := ne_get e m.b (by simp; exact refs_wds m.n)
  have n2 : x ≠ ka := ne_get e h.A (by simp [subB])
  have n3 : x ≠ k := ne_get e h.K (by simp [gtB])
  simp [n1, n2, n3]
/-! Whole programs -/
section
variable {km kb : Nat} {p t v mo : Int} {W : List Int} {Q : List Int} {O : Mo}
/-- Who waits goes on waiting. -/
theorem stays {b th most : Int} {k : Nat} (m : MemW O km kb W) (h : Pw O k b t th mo) (hw : W[wtA b th]? = some 1) (hm : 1 ≤ most ∧ most ≤ 1000) :
    ∃ O' ka kn l, run31S [.iface 42 (.ref 0 k 0), .ref 0 km 0, .int .i64 most] O = some (.tup [.bool false, .bool true], O') ∧ Gn O k ka kn b t th (wst l mo) ∧ Ag O O' [kb, ka, k] ∧ MemW O' km kb W ∧ Pw O' k b t th mo := by
  obtain ⟨ka, kn, l, h⟩ := h
  have R := wait_stay (b := b) (t := t) (th := th) (mo := mo) (v := l) (pc := 2) (ot := 0) hw (most.toNat - 1) false
  rw [show most.toNat - 1 + 1 = most.toNat by omega] at R
  obtain ⟨O2, ka2, e2, v2, g2⟩ := runE_ok (most := most) most.toNat 0 false O ka W _ (wst l mo) _ _ (by omega) (by omega) (h.ge m) R
  exact ⟨O2, ka, kn, l, run31_enter (by omega) (by simpa using e2), h, v2.ag, g2.M, ⟨ka2, kn, l, g2.gn⟩⟩
/-- Who may go on goes in. -/
theorem goes {b th most : Int} {k : Nat} (m : MemW O km kb W) (h : Pw O k b t th mo) (hw : W[wtA b th]? = some 0) (hm : 1 ≤ most ∧ most ≤ 1000) :
    ∃ O' ka kn l, run31S [.iface 42 (.ref 0 k 0), .ref 0 km 0, .int .i64 most] O = some (.tup [.bool true, .bool false], O') ∧ Gn O k ka kn b t th (wst l mo) ∧ Ag O O' [kb, ka, k] ∧ MemW O' km kb W ∧
      ∃ ka2, Gn O' k ka2 kn b t th ⟨16, relT, l, true, mo, 2, 0, true⟩ := by
  obtain ⟨ka, kn, l, h⟩ := h
  have R := enter_go (b := b) (t := t) (th := th) (mo := mo) (v := l) (pc := 2) (ot := 0) hw (most.toNat - 1) false
  rw [show most.toNat - 1 + 1 = most.toNat by omega] at R
  obtain ⟨O2, ka2, e2, v2, g2⟩ := runE_ok (most := most) most.toNat 0 false O ka W _ (wst l mo) _ _ (by omega) (by omega) (h.ge m) R
  exact ⟨O2, ka, kn, l, run31_enter (by omega) (by simpa using e2), h, v2.ag, g2.M, ka2, g2.gn⟩
end
end Den

/- The lock under many threads: its queue, in the words. -/
set_option maxRecDepth 100000
set_option maxHeartbeats 1000000
set_option linter.unusedSimpArgs false
set_option linter.unusedVariables false
namespace Den
open Go Go.Proofs

/-- How far a thread is with the lock. -/
inductive LS
  | out | a1 | a2 | a3 | a4 (o : Int) | a5 | own | r1 | r2 | r3 | r4 (o : Int)
def acqL (pc ot : Int) : LS := if pc = 1 then .a1 else if pc = 2 then .a2 else if pc = 3 then .a3 else if pc = 4 then .a4 ot else .a5
def relL (pc ot : Int) : LS := if pc = 1 then .r1 else if pc = 2 then .r2 else if pc = 3 then .r3 else .r4 ot
def nxL (b i : Int) : Nat := (b + i * 2 * 3).toNat
def wtL (b i : Int) : Nat := (b + i * 2 * 3 + 1).toNat
def tlv : List Int → Int
  | [] => 0
  | [i] => i * 2 + 1
  | _ :: j :: l => tlv (j :: l)
def hdOK (b : Int) (W : List Int) (i : Int) (l : List Int) : LS → Prop
  | .a5 => W[wtL b i]? = some 0
  | .own => True
  | .r1 => True
  | .r2 => True
  | .r3 => l ≠ []
  | .r4 o => o ≠ 0 ∧ W[nxL b i]? = some o
  | _ => False
def chL (b : Int) (W : List Int) (f : Int → LS) : List Int → Prop
  | [] => True
  | [x] => W[nxL b x]? = some 0
  | x :: y :: l => W[wtL b y]? = some 1 ∧ (f y = .a4 (x * 2 + 1) ∧ W[nxL b x]? = some 0 ∨ f y = .a5 ∧ W[nxL b x]? = some (y * 2 + 1)) ∧ chL b W f (y :: l)
def ouOK (b : Int) (W : List Int) (i : Int) : LS → Prop
  | .out => True
  | .a1 => True
  | .a2 => W[nxL b i]? = some 0
  | .a3 => W[nxL b i]? = some 0 ∧ W[wtL b i]? = some 1
  | _ => False
structure LI (b t lk : Int) (W : List Int) (q : List Int) (f : Int → LS) : Prop where
  b3 : 16 ≤ b
  k0 : 0 ≤ lk
  k1 : lk < 16
  len : b + t * 6 ≤ W.length
  nod : q.Nodup
  rng : ∀ i ∈ q, 0 ≤ i ∧ i < t
  tl : W[lk.toNat]? = some (tlv q)
  ou : ∀ i, 0 ≤ i → i < t → i ∉ q → ouOK b W i (f i)
  hd : ∀ i l, q = i :: l → hdOK b W i l (f i)
  ch : chL b W f q
def updL (f : Int → LS) (i : Int) (s : LS) : Int → LS := fun j => if j = i then s else f j
theorem updL_self (f : Int → LS) (i : Int) (s : LS) : updL f i s i = s := by simp [updL]
theorem updL_ne (f : Int → LS) {i j : Int} (s : LS) (h : j ≠ i) : updL f i s j = f j := by simp [updL, h]
theorem chL_cong {b : Int} {W W' : List Int} {f f' : Int → LS} : ∀ {q : List Int}, (∀ x ∈ q, W'[nxL b x]? = W[nxL b x]?) → (∀ y ∈ q.drop 1, W'[wtL b y]? = W[wtL b y]? ∧ f' y = f y) → chL b W f q → chL b W' f' q
  | [], _, _, _ => trivial
  | [x], h, _, g => by
    show W'[nxL b x]? = some 0
    rw [h x (by simp)]; exact g
  | x :: y :: l, h, k, g => by
    have ky := k y (by simp)
    refine ⟨by rw [ky.1]; exact g.1, ?_, chL_cong (fun z hz => h z (by simp at hz ⊢; right; exact hz)) (fun z hz => k z (by simp at hz ⊢; right; exact hz)) g.2.2⟩
    rw [ky.2, h x (by simp)]
    exact g.2.1
theorem tlv_app (q : List Int) (i : Int) : tlv (q ++ [i]) = i * 2 + 1 := by
  induction q with
  | nil => rfl
  | cons a l ih =>
    cases l with
    | nil => rfl
    | cons c l => exact ih
theorem tlv_mem {q : List Int} (h : q ≠ []) : ∃ x ∈ q, tlv q = x * 2 + 1 := by
  induction q with
  | nil => exact absurd rfl h
  | cons a l ih =>
    cases l with
    | nil => exact ⟨a, by simp, rfl⟩
    | cons c l =>
      obtain ⟨x, hx, e⟩ := ih (by simp)
      exact ⟨x, by simp at hx ⊢; right; exact hx, e⟩
/-- One more behind the last. -/
theorem chL_app {b : Int} {W W' : List Int} {f f' : Int → LS} {i : Int} (hn : W'[nxL b i]? = some 0) (hw : W'[wtL b i]? = some 1) : ∀ {q : List Int}, q ≠ [] → (∀ x ∈ q, W'[nxL b x]? = W[nxL b x]?) → (∀ y ∈ q.drop 1, W'[wtL b y]? = W[wtL b y]? ∧ f' y = f y) → f' i = .a4 (tlv q) → chL b W f q → chL b W' f' (q ++ [i])
  | [], h, _, _, _, _ => absurd rfl h
  | [x], _, h, _, e, g => ⟨hw, Or.inl ⟨e, by rw [h x (by simp)]; exact g⟩, hn⟩
  | x :: y :: l, _, h, k, e, g => by
    have ky := k y (by simp)
    refine ⟨by rw [ky.1]; exact g.1, ?_, chL_app hn hw (q := y :: l) (by simp) (fun z hz => h z (by simp at hz ⊢; right; exact hz)) (fun z hz => k z (by simp at hz ⊢; right; exact hz)) e g.2.2⟩
    rw [ky.2, h x (by simp)]
    exact g.2.1
/-- The one who has no link yet makes it. -/
theorem chL_link {b t : Int} {W : List Int} {f : Int → LS} {i o : Int} (hb : 16 ≤ b) (hi : f i = .a4 o) : ∀ {q : List Int}, q.Nodup → (∀ x ∈ q, 0 ≤ x ∧ x < t) → b + t * 6 ≤ W.length → i ∈ q.drop 1 → chL b W f q → ∃ x ∈ q, o = x * 2 + 1 ∧ x ≠ i ∧ chL b (W.set (nxL b x) (i * 2 + 1)) (updL f i .a5) q
  | [], _, _, _, h, _ => by simp at h
  | [x], _, _, _, h, _ => by simp at h
  | x :: y :: l, nd, rg, len, h, g => by
    have rx := rg x (by simp)
    have ry := rg y (by simp)
    have nd1 := List.nodup_cons.1 nd
    have nd2 := List.nodup_cons.1 nd1.2
    have hxy : x ≠ y := fun e => nd1.1 (by simp [e])
    by_cases hy : i = y
    · subst hy
      have ho : o = x * 2 + 1 := by
        rcases g.2.1 with ⟨e, _⟩ | ⟨e, _⟩
        · rw [hi] at e; cases e; rfl
        · rw [hi] at e; cases e
      refine ⟨x, by simp, ho, hxy, ?_, Or.inr ⟨updL_self _ _ _, ?_⟩, ?_⟩
      · rw [List.getElem?_set_ne (by unfold nxL wtL; omega)]; exact g.1
      · rw [List.getElem?_set_self (by unfold nxL; omega)]
      · refine chL_cong (fun z hz => ?_) (fun z hz => ?_) g.2.2
        · have rz := rg z (by simp at hz ⊢; right; exact hz)
          have : x ≠ z := fun e => nd1.1 (e ▸ hz)
          rw [List.getElem?_set_ne (by unfold nxL; omega)]
        · have hz' : z ∈ l := by simpa using hz
          have rz := rg z (by simp [hz'])
          refine ⟨by rw [List.getElem?_set_ne (by unfold nxL wtL; omega)], updL_ne _ _ (fun e => nd2.1 (e ▸ hz'))⟩
    · have hm : i ∈ l := by
        simp at h; rcases h with h | h
        · exact absurd h hy
        · exact h
      obtain ⟨z, hz, ho, hzi, hc⟩ := chL_link hb hi (q := y :: l) nd1.2 (fun z hz => rg z (by simp at hz ⊢; right; exact hz)) len (by simpa using hm) g.2.2
      have rz := rg z (by simp at hz ⊢; right; exact hz)
      have hxz : x ≠ z := fun e => nd1.1 (e ▸ hz)
      refine ⟨z, by simp at hz ⊢; right; exact hz, ho, hzi, ?_, ?_, hc⟩
      · rw [List.getElem?_set_ne (by unfold nxL wtL; omega)]; exact g.1
      · rw [updL_ne _ _ (fun e => hy e.symm), List.getElem?_set_ne (by unfold nxL; omega)]
        exact g.2.1
/-- What the lock's steps leave alone. -/
def LkAg (b t lk : Int) (W W' : List Int) : Prop := W'.length = W.length ∧ ∀ j, j ≠ lk.toNat → (∀ i, 0 ≤ i → i < t → j ≠ nxL b i ∧ j ≠ wtL b i) → W'[j]? = W[j]?
theorem LkAg.refl (b t lk : Int) (W : List Int) : LkAg b t lk W W := ⟨rfl, fun _ _ _ => rfl⟩
theorem LkAg.nx {b t lk : Int} (W : List Int) {i : Int} (v : Int) (h0 : 0 ≤ i) (h1 : i < t) : LkAg b t lk W (W.set (nxL b i) v) := ⟨by simp, fun j _ h => List.getElem?_set_ne (h i h0 h1).1.symm⟩
theorem LkAg.wt {b t lk : Int} (W : List Int) {i : Int} (v : Int) (h0 : 0 ≤ i) (h1 : i < t) : LkAg b t lk W (W.set (wtL b i) v) := ⟨by simp, fun j _ h => List.getElem?_set_ne (h i h0 h1).2.symm⟩
theorem LkAg.lk {b t lk : Int} (W : List Int) (v : Int) : LkAg b t lk W (W.set lk.toNat v) := ⟨by simp, fun j h _ => List.getElem?_set_ne h.symm⟩
section
variable {b t lk : Int} {W : List Int} {q : List Int} {f : Int → LS} {i : Int}
/-- Words that are none of the lock's. -/
theorem LI.frame (h : LI b t lk W q f) {W' : List Int} (hl : W'.length = W.length) (hk : W'[lk.toNat]? = W[lk.toNat]?) (hw : ∀ i, 0 ≤ i → i < t → W'[nxL b i]? = W[nxL b i]? ∧ W'[wtL b i]? = W[wtL b i]?) : LI b t lk W' q f where
  b3 := h.b3
  k0 := h.k0
  k1 := h.k1
  len := by rw [hl]; exact h.len
  nod := h.nod
  rng := h.rng
  tl := by rw [hk]; exact h.tl
  ou i h0 h1 hq := by
    have := h.ou i h0 h1 hq
    have e := hw i h0 h1
    cases hs : f i <;> rw [hs] at this <;> simp only [ouOK] at this ⊢ <;> first | trivial | (rw [e.1, e.2]; exact this) | (rw [e.1]; exact this)
  hd i l e := by
    have := h.hd i l e
    have r := h.rng i (by simp [e])
    have e2 := hw i r.1 r.2
    cases hs : f i <;> rw [hs] at this <;> simp only [hdOK] at this ⊢ <;> first | trivial | exact this | (rw [e2.2]; exact this) | (rw [e2.1]; exact this)
  ch := chL_cong (fun x hx => (hw x (h.rng x hx).1 (h.rng x hx).2).1) (fun y hy => by
    have r := h.rng y (List.mem_of_mem_drop hy)
    exact ⟨(hw y r.1 r.2).2, rfl⟩) h.ch
/-- Who is not in the queue moves on. -/
theorem LI.outs (h : LI b t lk W q f) (hq : i ∉ q) {W' : List Int} {s : LS} (hl : W'.length = W.length) (hk : W'[lk.toNat]? = W[lk.toNat]?) (hw : ∀ j, 0 ≤ j → j < t → j ≠ i → W'[nxL b j]? = W[nxL b j]? ∧ W'[wtL b j]? = W[wtL b j]?) (hs : ouOK b W' i s) : LI b t lk W' q (updL f i s) where
  b3 := h.b3
  k0 := h.k0
  k1 := h.k1
  len := by rw [hl]; exact h.len
  nod := h.nod
  rng := h.rng
  tl := by rw [hk]; exact h.tl
  ou j h0 h1 hj := by
    by_cases hji : j = i
    · subst hji; rw [updL_self]; exact hs
    · rw [updL_ne _ _ hji]
      have := h.ou j h0 h1 hj
      have e := hw j h0 h1 hji
      cases hs : f j <;> rw [hs] at this <;> simp only [ouOK] at this ⊢ <;> first | trivial | (rw [e.1, e.2]; exact this) | (rw [e.1]; exact this)
  hd j l e := by
    have r := h.rng j (by simp [e])
    have hji : j ≠ i := fun e2 => hq (by rw [← e2, e]; simp)
    rw [updL_ne _ _ hji]
    have := h.hd j l e
    have e2 := hw j r.1 r.2 hji
    cases hs : f j <;> rw [hs] at this <;> simp only [hdOK] at this ⊢ <;> first | trivial | exact this | (rw [e2.2]; exact this) | (rw [e2.1]; exact this)
  ch := chL_cong (fun x hx => (hw x (h.rng x hx).1 (h.rng x hx).2 (fun e => hq (e ▸ hx))).1) (fun y hy => by
    have hm := List.mem_of_mem_drop hy
    have r := h.rng y hm
    have hyi : y ≠ i := fun e => hq (e ▸ hm)
    exact ⟨(hw y r.1 r.2 hyi).2, updL_ne _ _ hyi⟩) h.ch
/-- The first one moves on, and changes no word. -/
theorem LI.first (h : LI b t lk W (i :: q) f) {s : LS} (hs : hdOK b W i q s) : LI b t lk W (i :: q) (updL f i s) where
  b3 := h.b3
  k0 := h.k0
  k1 := h.k1
  len := h.len
  nod := h.nod
  rng := h.rng
  tl := h.tl
  ou j h0 h1 hj := by
    rw [updL_ne _ _ (fun e => hj (by simp [e]))]; exact h.ou j h0 h1 hj
  hd j l e := by cases e; rw [updL_self]; exact hs
  ch := chL_cong (fun x hx => rfl) (fun y hy => ⟨rfl, updL_ne _ _ (fun e => (List.nodup_cons.1 h.nod).1 (by subst e; simpa using hy))⟩) h.ch
theorem LI.start (h : LI b t lk W q f) (h0 : 0 ≤ i) (h1 : i < t) (hf : f i = .out) : LI b t lk W q (updL f i .a1) := by
  have hq : i ∉ q := fun hq => by
    cases q with
    | nil => simp at hq
    | cons x l =>
      by_cases hx : x = i
      · subst hx; have := h.hd _ _ rfl; rw [hf] at this; exact this
      · have hm : i ∈ l := by simp at hq; rcases hq with e | e; exact absurd e.symm hx; exact e
        have aux : ∀ (q : List Int), i ∈ q.drop 1 → chL b W f q → f i ≠ .out := by
          intro q
          induction q with
          | nil => intro h; simp at h
          | cons a q ih =>
            intro hh g
            cases q with
            | nil => simp at hh
            | cons c q =>
              by_cases hc : c = i
              · subst hc; rcases g.2.1 with ⟨e, _⟩ | ⟨e, _⟩ <;> rw [e] <;> simp
              · exact ih (by simp at hh ⊢; rcases hh with e | e; exact absurd e.symm hc; exact e) g.2.2
        exact aux _ (by simpa using hm) h.ch hf
  exact h.outs hq rfl rfl (fun j _ _ _ => ⟨rfl, rfl⟩) trivial
end
end Den

/- The lock under many threads: its steps. -/
set_option maxRecDepth 100000
set_option maxHeartbeats 1000000
set_option linter.unusedSimpArgs false
set_option linter.unusedVariables false
namespace Den
open Go Go.Proofs

theorem chL_mem {b : Int} {W : List Int} {f : Int → LS} {i : Int} : ∀ {q : List Int}, i ∈ q.drop 1 → chL b W f q → W[wtL b i]? = some 1 ∧ (f i = .a5 ∨ ∃ o, f i = .a4 o)
  | [], h, _ => by simp at h
  | [x], h, _ => by simp at h
  | x :: y :: l, h, g => by
    by_cases hy : i = y
    · subst hy
      refine ⟨g.1, ?_⟩
      rcases g.2.1 with ⟨e, _⟩ | ⟨e, _⟩
      · exact Or.inr ⟨_, e⟩
      · exact Or.inl e
    · exact chL_mem (q := y :: l) (by simp at h ⊢; rcases h with e | e; exact absurd e hy; exact e) g.2.2
section
variable {b t lk : Int} {W : List Int} {q : List Int} {f : Int → LS} {i : Int}
theorem LI.cls (h : LI b t lk W q f) (h0 : 0 ≤ i) (h1 : i < t) : (i ∉ q ∧ ouOK b W i (f i)) ∨ (∃ l, q = i :: l ∧ hdOK b W i l (f i)) ∨ (i ∈ q.drop 1 ∧ W[wtL b i]? = some 1 ∧ (f i = .a5 ∨ ∃ o, f i = .a4 o)) := by
  by_cases hq : i ∈ q
  · right
    cases q with
    | nil => simp at hq
    | cons x l =>
      by_cases hx : i = x
      · subst hx; exact Or.inl ⟨l, rfl, h.hd _ _ rfl⟩
      · have hm : i ∈ (x :: l).drop 1 := by simp at hq ⊢; rcases hq with e | e; exact absurd e hx; exact e
        exact Or.inr ⟨hm, chL_mem hm h.ch⟩
  · exact Or.inl ⟨hq, h.ou i h0 h1 hq⟩
theorem LI.isOut (h : LI b t lk W q f) (h0 : 0 ≤ i) (h1 : i < t) (hf : f i = .out ∨ f i = .a1 ∨ f i = .a2 ∨ f i = .a3) : i ∉ q ∧ ouOK b W i (f i) := by
  rcases h.cls h0 h1 with h | ⟨l, _, h⟩ | ⟨_, _, h⟩
  · exact h
  · rcases hf with e | e | e | e <;> rw [e] at h <;> exact h.elim
  · rcases hf with e | e | e | e <;> rw [e] at h <;> simp at h
theorem LI.isHead (h : LI b t lk W q f) (h0 : 0 ≤ i) (h1 : i < t) (hf : f i = .own ∨ f i = .r1 ∨ f i = .r2 ∨ f i = .r3 ∨ ∃ o, f i = .r4 o) : ∃ l, q = i :: l ∧ hdOK b W i l (f i) := by
  rcases h.cls h0 h1 with ⟨_, h⟩ | h | ⟨_, _, h⟩
  · rcases hf with e | e | e | e | ⟨o, e⟩ <;> rw [e] at h <;> exact h.elim
  · exact h
  · rcases hf with e | e | e | e | ⟨o, e⟩ <;> rw [e] at h <;> simp at h
/-- Words of the nodes are there, and lie apart. -/
theorem LI.has (h : LI b t lk W q f) (h0 : 0 ≤ i) (h1 : i < t) : (∃ x, W[nxL b i]? = some x) ∧ (∃ x, W[wtL b i]? = some x) := by
  have := h.b3; have := h.len
  exact ⟨⟨_, List.getElem?_eq_getElem (show nxL b i < W.length by unfold nxL; omega)⟩, ⟨_, List.getElem?_eq_getElem (show wtL b i < W.length by unfold wtL; omega)⟩⟩
theorem ix_ne {b i j : Int} (hb : 16 ≤ b) (h0 : 0 ≤ i) (h1 : 0 ≤ j) (hne : i ≠ j) : nxL b i ≠ nxL b j ∧ wtL b i ≠ wtL b j := by unfold nxL wtL; omega
theorem ix_nw {b i j : Int} (hb : 16 ≤ b) (h0 : 0 ≤ i) (h1 : 0 ≤ j) : nxL b i ≠ wtL b j := by unfold nxL wtL; omega
theorem ix_lk {b i lk : Int} (hb : 16 ≤ b) (h0 : 0 ≤ i) (hk : lk < 16) : nxL b i ≠ lk.toNat ∧ wtL b i ≠ lk.toNat := by unfold nxL wtL; omega
theorem acq_step (h : LI b t lk W q f) (h0 : 0 ≤ i) (h1 : i < t) {pc ot : Int} (hp : 1 ≤ pc ∧ pc ≤ 5) (hf : f i = acqL pc ot) :
    ∃ pc' ot' en W' w q', acqP b t lk (i * 2) pc ot W = some (pc', ot', en, W', w) ∧ LI b t lk W' q' (updL f i (if en = true then .own else acqL pc' ot')) ∧ (1 ≤ pc' ∧ pc' ≤ 5) ∧ LkAg b t lk W W' ∧ (w = true → f i = .a5 ∧ W[wtL b i]? = some 1) := by
  have hb := h.b3
  have hk := h.k1
  have hk0 := h.k0
  have len := h.len
  obtain ⟨⟨xn, hn⟩, ⟨xw, hw⟩⟩ := h.has h0 h1
  have ln : nxL b i < W.length := (List.getElem?_eq_some_iff.1 hn).1
  have lw : wtL b i < W.length := (List.getElem?_eq_some_iff.1 hw).1
  have hn' : W[(b + i * 2 * 3).toNat]? = some xn := hn
  have hw' : W[(b + i * 2 * 3 + 1).toNat]? = some xw := hw
  have lkl : lk.toNat < W.length := (List.getElem?_eq_some_iff.1 h.tl).1
  by_cases p1 : pc = 1
  · subst p1
    have hf' : f i = .a1 := by rw [hf]; rfl
    obtain ⟨hq, _⟩ := h.isOut h0 h1 (by simp [hf'])
    refine ⟨2, ot, false, W.set (nxL b i) 0, false, q, by simp only [acqP, if_true, hn', Option.map_some]; rfl, ?_, by omega, LkAg.nx _ _ h0 h1, by simp⟩
    refine h.outs hq (by simp) (List.getElem?_set_ne (ix_lk hb h0 hk).1) (fun j j0 j1 hj => ⟨List.getElem?_set_ne (ix_ne hb h0 j0 (Ne.symm hj)).1, List.getElem?_set_ne (ix_nw hb h0 j0)⟩) ?_
    show (W.set (nxL b i) 0)[nxL b i]? = some 0
    exact List.getElem?_set_self ln
  by_cases p2 : pc = 2
  · subst p2
    have hf' : f i = .a2 := by rw [hf]; rfl
    obtain ⟨hq, ho⟩ := h.isOut h0 h1 (by simp [hf'])
    rw [hf'] at ho
    refine ⟨3, ot, false, W.set (wtL b i) 1, false, q, by simp only [acqP, if_neg p1, if_true, hw', Option.map_some]; rfl, ?_, by omega, LkAg.wt _ _ h0 h1, by simp⟩
    refine h.outs hq (by simp) (List.getElem?_set_ne (ix_lk hb h0 hk).2) (fun j j0 j1 hj => ⟨List.getElem?_set_ne (ix_nw hb j0 h0).symm, List.getElem?_set_ne (ix_ne hb h0 j0 (Ne.symm hj)).2⟩) ?_
    exact ⟨by rw [List.getElem?_set_ne (ix_nw hb h0 h0).symm]; exact ho, List.getElem?_set_self lw⟩
  by_cases p3 : pc = 3
  · subst p3
    have hf' : f i = .a3 := by rw [hf]; rfl
    obtain ⟨hq, ho⟩ := h.isOut h0 h1 (by simp [hf'])
    rw [hf'] at ho
    have gx : ∀ j, 0 ≤ j → (W.set lk.toNat (i * 2 + 1))[nxL b j]? = W[nxL b j]? ∧ (W.set lk.toNat (i * 2 + 1))[wtL b j]? = W[wtL b j]? := fun j j0 =>
      ⟨List.getElem?_set_ne (ix_lk hb j0 hk).1.symm, List.getElem?_set_ne (ix_lk hb j0 hk).2.symm⟩
    have ouT : ∀ (s : LS) (j : Int), 0 ≤ j → j < t → j ∉ q → j ≠ i → ouOK b (W.set lk.toNat (i * 2 + 1)) j (updL f i s j) := fun s j j0 j1 hj hji => by
      rw [updL_ne _ _ hji]
      have := h.ou j j0 j1 hj
      have e := gx j j0
      cases hs : f j <;> rw [hs] at this <;> simp only [ouOK] at this ⊢ <;> first | trivial | (rw [e.1, e.2]; exact this) | (rw [e.1]; exact this)
    by_cases hqe : q = []
    · subst hqe
      have htl := h.tl
      refine ⟨3, ot, true, W.set lk.toNat (i * 2 + 1), false, [i], by simp only [acqP, if_neg p1, if_neg p2, if_true, htl, tlv, Option.map_some], ?_, by omega, LkAg.lk _ _, by simp⟩
      rw [if_pos rfl]
      exact { b3 := hb, k0 := h.k0, k1 := hk, len := by simpa using len, nod := by simp, rng := fun j hj => by simp at hj; omega
              tl := by rw [List.getElem?_set_self lkl]; rfl
              ou := fun j j0 j1 hj => ouT _ j j0 j1 (by simp) (by simpa using hj)
              hd := fun j l e => by cases e; rw [updL_self]; trivial
              ch := by show (W.set lk.toNat (i * 2 + 1))[nxL b i]? = some 0; rw [(gx i h0).1]; exact ho.1 }
    · obtain ⟨x, hx, ex⟩ := tlv_mem hqe
      have rx := h.rng x hx
      have htl := h.tl
      have hne : ¬ tlv q = 0 := by omega
      refine ⟨4, tlv q, false, W.set lk.toNat (i * 2 + 1), false, q ++ [i], by simp only [acqP, if_neg p1, if_neg p2, if_true, htl, if_neg hne, Option.map_some], ?_, by omega, LkAg.lk _ _, by simp⟩
      have hi : updL f i (acqL 4 (tlv q)) i = .a4 (tlv q) := by rw [updL_self]; rfl
      exact { b3 := hb, k0 := h.k0, k1 := hk, len := by simpa using len
              nod := by
                rw [List.nodup_append]
                exact ⟨h.nod, by simp, fun a ha c hc => by simp at hc; subst hc; intro e; subst e; exact hq ha⟩
              rng := fun j hj => by
                simp only [List.mem_append, List.mem_singleton] at hj
                rcases hj with hj | rfl
                · exact h.rng j hj
                · exact ⟨h0, h1⟩
              tl := by rw [List.getElem?_set_self lkl, tlv_app]
              ou := fun j j0 j1 hj => by
                simp only [List.mem_append, List.mem_singleton] at hj
                exact ouT _ j j0 j1 (fun e => hj (Or.inl e)) (fun e => hj (Or.inr e))
              hd := fun j l e => by
                cases q with
                | nil => exact absurd rfl hqe
                | cons y r =>
                  simp only [List.cons_append, List.cons.injEq] at e
                  obtain ⟨rfl, rfl⟩ := e
                  have ry := h.rng y (by simp)
                  have hyi : y ≠ i := fun e => hq (by simp [e])
                  have := h.hd y r rfl
                  rw [if_neg (by simp), updL_ne _ _ hyi]
                  have e2 := gx y ry.1
                  cases hs : f y <;> rw [hs] at this <;> simp only [hdOK] at this ⊢ <;> first | trivial | (rw [e2.2]; exact this) | (rw [e2.1]; exact this) | (simp; done)
              ch := by
                rw [if_neg (by simp)]
                exact chL_app (by rw [(gx i h0).1]; exact ho.1) (by rw [(gx i h0).2]; exact ho.2) hqe (fun y hy => (gx y (h.rng y hy).1).1) (fun y hy => by
                  have hm := List.mem_of_mem_drop hy
                  exact ⟨(gx y (h.rng y hm).1).2, updL_ne _ _ (fun e => hq (e ▸ hm))⟩) hi h.ch }
  by_cases p4 : pc = 4
  · subst p4
    have hf' : f i = .a4 ot := by rw [hf]; rfl
    have hm : i ∈ q.drop 1 := by
      rcases h.cls h0 h1 with ⟨_, h⟩ | ⟨l, _, h⟩ | ⟨h, _⟩
      · rw [hf'] at h; exact h.elim
      · rw [hf'] at h; exact h.elim
      · exact h
    obtain ⟨x, hx, rfl, hxi, hc⟩ := chL_link hb hf' h.nod h.rng len hm h.ch
    have rx := h.rng x hx
    obtain ⟨⟨xx, hxx⟩, _⟩ := h.has rx.1 rx.2
    have hxx' : W[(b + (x * 2 + 1 - 1) * 3).toNat]? = some xx := by rw [show b + (x * 2 + 1 - 1) * 3 = b + x * 2 * 3 by omega]; exact hxx
    have c1 : 1 ≤ x * 2 + 1 ∧ x * 2 + 1 ≤ t * 2 := by omega
    have hset : W.set (b + (x * 2 + 1 - 1) * 3).toNat (i * 2 + 1) = W.set (nxL b x) (i * 2 + 1) := by
      rw [show b + (x * 2 + 1 - 1) * 3 = b + x * 2 * 3 by omega]; rfl
    refine ⟨5, x * 2 + 1, false, W.set (nxL b x) (i * 2 + 1), false, q, by simp only [acqP, if_neg p1, if_neg p2, if_neg p3, if_true, if_pos c1, hxx', Option.map_some, hset], ?_, by omega, LkAg.nx _ _ rx.1 rx.2, by simp⟩
    rw [if_neg (by simp)]
    have gx : ∀ j, 0 ≤ j → (j ≠ x → (W.set (nxL b x) (i * 2 + 1))[nxL b j]? = W[nxL b j]?) ∧ (W.set (nxL b x) (i * 2 + 1))[wtL b j]? = W[wtL b j]? := fun j j0 =>
      ⟨fun hj => List.getElem?_set_ne (ix_ne hb rx.1 j0 (Ne.symm hj)).1, List.getElem?_set_ne (ix_nw hb rx.1 j0)⟩
    have hiq : i ∈ q := List.mem_of_mem_drop hm
    exact { b3 := hb, k0 := h.k0, k1 := hk, len := by simpa using len, nod := h.nod, rng := h.rng
            tl := by rw [List.getElem?_set_ne (ix_lk hb rx.1 hk).1]; exact h.tl
            ou := fun j j0 j1 hj => by
              have hji : j ≠ i := fun e => hj (e ▸ hiq)
              have hjx : j ≠ x := fun e => hj (e ▸ hx)
              rw [updL_ne _ _ hji]
              have := h.ou j j0 j1 hj
              have e := gx j j0
              cases hs : f j <;> rw [hs] at this <;> simp only [ouOK] at this ⊢ <;> first | trivial | (rw [e.1 hjx, e.2]; exact this) | (rw [e.1 hjx]; exact this)
            hd := fun j l e => by
              subst e
              have rj := h.rng j (by simp)
              have hji : j ≠ i := fun e2 => (List.nodup_cons.1 h.nod).1 (by rw [e2]; simpa using hm)
              rw [updL_ne _ _ hji]
              have := h.hd j l rfl
              have e := gx j rj.1
              cases hs : f j with
              | r4 o =>
                rw [hs] at this
                simp only [hdOK] at this ⊢
                by_cases hjx : j = x
                · subst hjx
                  -- its link is there: not the one that is made now
                  exfalso
                  cases l with
                  | nil => simp at hm
                  | cons y l =>
                    have g := h.ch
                    by_cases hy : i = y
                    · subst hy
                      rcases g.2.1 with ⟨_, e3⟩ | ⟨e3, _⟩
                      · rw [e3] at this; exact this.1 (by have := this.2; simp at this; exact this.symm)
                      · rw [hf'] at e3; cases e3
                    · -- x's follower is i
                      have nd := h.nod
                      obtain ⟨z, hz, ez, hzi, _⟩ := chL_link hb hf' (q := y :: l) (List.nodup_cons.1 nd).2 (fun z hz => h.rng z (by simp at hz ⊢; right; exact hz)) len (by simp at hm ⊢; rcases hm with e | e; exact absurd e hy; exact e) g.2.2
                      have : z = j := by omega
                      subst this
                      exact (List.nodup_cons.1 nd).1 hz
                · rw [e.1 hjx]; exact this
              | _ => rw [hs] at this; simp only [hdOK] at this ⊢ <;> first | trivial | exact this | (rw [e.2]; exact this)
            ch := hc }
  · have p5 : pc = 5 := by omega
    subst p5
    have hf' : f i = .a5 := by rw [hf]; rfl
    rcases h.cls h0 h1 with ⟨_, g⟩ | ⟨l, e, g⟩ | ⟨hm, g, _⟩
    · rw [hf'] at g; exact g.elim
    · rw [hf'] at g
      have g' : W[(b + i * 2 * 3 + 1).toNat]? = some 0 := g
      subst e
      refine ⟨5, ot, true, W, false, i :: l, by simp only [acqP, if_neg p1, if_neg p2, if_neg p3, if_neg p4, if_true, g', Option.map_some], ?_, by omega, LkAg.refl _ _ _ _, by simp⟩
      rw [if_pos rfl]
      exact h.first trivial
    · have g' : W[(b + i * 2 * 3 + 1).toNat]? = some 1 := g
      have c1 : ¬ (1 : Int) = 0 := by omega
      refine ⟨5, ot, false, W, true, q, by simp only [acqP, if_neg p1, if_neg p2, if_neg p3, if_neg p4, if_true, g', if_neg c1, Option.map_some], ?_, by omega, LkAg.refl _ _ _ _, fun _ => ⟨hf', g⟩⟩
      rw [if_neg (by simp)]
      have e : updL f i (acqL 5 ot) = f := by
        funext j
        by_cases hj : j = i
        · subst hj; rw [updL_self, hf]
        · rw [updL_ne _ _ hj]
      rw [e]; exact h
theorem rel_step (h : LI b t lk W q f) (h0 : 0 ≤ i) (h1 : i < t) {pc ot : Int} (hp : 1 ≤ pc ∧ pc ≤ 4) (hf : f i = relL pc ot) :
    ∃ pc' ot' en W' w q', relP b t lk (i * 2) pc ot W = some (pc', ot', en, W', w) ∧ LI b t lk W' q' (updL f i (if en = true then .out else relL pc' ot')) ∧ (1 ≤ pc' ∧ pc' ≤ 4) ∧ LkAg b t lk W W' ∧ (w = true → f i = .r3 ∧ W[nxL b i]? = some 0) := by
  have hb := h.b3
  have hk := h.k1
  have hk0 := h.k0
  have len := h.len
  have hcase : f i = .own ∨ f i = .r1 ∨ f i = .r2 ∨ f i = .r3 ∨ ∃ o, f i = .r4 o := by
    rw [hf]; unfold relL
    by_cases p1 : pc = 1
    · simp [p1]
    by_cases p2 : pc = 2
    · simp [p2]
    by_cases p3 : pc = 3
    · simp [p3]
    · simp [p1, p2, p3]
  obtain ⟨l, rfl, hh⟩ := h.isHead h0 h1 hcase
  obtain ⟨⟨xn, hn⟩, _⟩ := h.has h0 h1
  have hn' : W[(b + i * 2 * 3).toNat]? = some xn := hn
  by_cases p1 : pc = 1
  · subst p1
    by_cases hx : xn = 0
    · exact ⟨2, ot, false, W, false, i :: l, by simp only [relP, if_true, hn', if_pos hx, Option.map_some], h.first (by rw [if_neg (by simp)]; trivial), by omega, LkAg.refl _ _ _ _, by simp⟩
    · exact ⟨4, xn, false, W, false, i :: l, by simp only [relP, if_true, hn', if_neg hx, Option.map_some], h.first (by rw [if_neg (by simp)]; exact ⟨hx, hn⟩), by omega, LkAg.refl _ _ _ _, by simp⟩
  by_cases p3 : pc = 3
  · subst p3
    have hf' : f i = .r3 := by rw [hf]; rfl
    rw [hf'] at hh
    by_cases hx : xn = 0
    · exact ⟨3, ot, false, W, true, i :: l, by simp only [relP, if_neg p1, if_true, hn', if_pos hx, Option.map_some], h.first (by rw [if_neg (by simp)]; exact hh), by omega, LkAg.refl _ _ _ _, fun _ => ⟨hf', by rw [hn, hx]⟩⟩
    · exact ⟨4, xn, false, W, false, i :: l, by simp only [relP, if_neg p1, if_true, hn', if_neg hx, Option.map_some], h.first (by rw [if_neg (by simp)]; exact ⟨hx, hn⟩), by omega, LkAg.refl _ _ _ _, by simp⟩
  by_cases p2 : pc = 2
  · subst p2
    have htl := h.tl
    have lkl : lk.toNat < W.length := (List.getElem?_eq_some_iff.1 h.tl).1
    by_cases hl : l = []
    · subst hl
      refine ⟨2, ot, true, W.set lk.toNat 0, false, [], by simp only [relP, if_neg p1, if_neg p3, if_true, htl, tlv, Option.map_some], ?_, by omega, LkAg.lk _ _, by simp⟩
      rw [if_pos rfl]
      exact { b3 := hb, k0 := h.k0, k1 := hk, len := by simpa using len, nod := by simp, rng := fun j hj => by simp at hj
              tl := by rw [List.getElem?_set_self lkl]; rfl
              ou := fun j j0 j1 hj => by
                by_cases hji : j = i
                · subst hji; rw [updL_self]; trivial
                · rw [updL_ne _ _ hji]
                  have := h.ou j j0 j1 (by simpa using hji)
                  have e1 : (W.set lk.toNat 0)[nxL b j]? = W[nxL b j]? := List.getElem?_set_ne (ix_lk hb j0 hk).1.symm
                  have e2 : (W.set lk.toNat 0)[wtL b j]? = W[wtL b j]? := List.getElem?_set_ne (ix_lk hb j0 hk).2.symm
                  cases hs : f j <;> rw [hs] at this <;> simp only [ouOK] at this ⊢ <;> first | trivial | (rw [e1, e2]; exact this) | (rw [e1]; exact this)
              hd := fun j l e => by cases e
              ch := trivial }
    · obtain ⟨x, hx, ex⟩ := tlv_mem hl
      have htl2 : tlv (i :: l) = x * 2 + 1 := by
        cases l with
        | nil => exact absurd rfl hl
        | cons y l => exact ex
      have hne : ¬ tlv (i :: l) = i * 2 + 1 := by
        rw [htl2]; intro e
        have : x = i := by omega
        subst this
        exact (List.nodup_cons.1 h.nod).1 hx
      exact ⟨3, ot, false, W, false, i :: l, by simp only [relP, if_neg p1, if_neg p3, if_true, htl, if_neg hne, Option.map_some], h.first (by rw [if_neg (by simp)]; exact hl), by omega, LkAg.refl _ _ _ _, by simp⟩
  · have p4 : pc = 4 := by omega
    subst p4
    have hf' : f i = .r4 ot := by rw [hf]; rfl
    rw [hf'] at hh
    obtain ⟨ho, ho2⟩ := hh
    cases l with
    | nil =>
      have := h.ch
      simp only [chL] at this
      rw [this] at ho2; simp at ho2; exact absurd ho2.symm ho
    | cons y l =>
      have g := h.ch
      rcases g.2.1 with ⟨_, e⟩ | ⟨e, e2⟩
      · rw [e] at ho2; simp at ho2; exact absurd ho2.symm ho
      rw [e2] at ho2
      have ho3 : ot = y * 2 + 1 := by simp at ho2; exact ho2.symm
      subst ho3
      have ry := h.rng y (by simp)
      have nd := List.nodup_cons.1 h.nod
      have hyi : y ≠ i := fun e => nd.1 (by simp [e])
      have c1 : 1 ≤ y * 2 + 1 ∧ y * 2 + 1 ≤ t * 2 := by omega
      obtain ⟨_, ⟨xw, hw⟩⟩ := h.has ry.1 ry.2
      have lw : wtL b y < W.length := (List.getElem?_eq_some_iff.1 hw).1
      have hw' : W[(b + (y * 2 + 1 - 1) * 3 + 1).toNat]? = some xw := by rw [show b + (y * 2 + 1 - 1) * 3 + 1 = b + y * 2 * 3 + 1 by omega]; exact hw
      have hset : W.set (b + (y * 2 + 1 - 1) * 3 + 1).toNat 0 = W.set (wtL b y) 0 := by
        rw [show b + (y * 2 + 1 - 1) * 3 + 1 = b + y * 2 * 3 + 1 by omega]; rfl
      refine ⟨4, y * 2 + 1, true, W.set (wtL b y) 0, false, y :: l, by simp only [relP, if_neg p1, if_neg p2, if_neg p3, if_true, if_pos c1, hw', hset, Option.map_some], ?_, by omega, LkAg.wt _ _ ry.1 ry.2, by simp⟩
      rw [if_pos rfl]
      have gx : ∀ j, 0 ≤ j → (W.set (wtL b y) 0)[nxL b j]? = W[nxL b j]? ∧ (j ≠ y → (W.set (wtL b y) 0)[wtL b j]? = W[wtL b j]?) := fun j j0 =>
        ⟨List.getElem?_set_ne (ix_nw hb j0 ry.1).symm, fun hj => List.getElem?_set_ne (ix_ne hb ry.1 j0 (Ne.symm hj)).2⟩
      exact { b3 := hb, k0 := h.k0, k1 := hk, len := by simpa using len, nod := nd.2, rng := fun j hj => h.rng j (by simp at hj ⊢; right; exact hj)
              tl := by rw [List.getElem?_set_ne (ix_lk hb ry.1 hk).2]; exact h.tl
              ou := fun j j0 j1 hj => by
                by_cases hji : j = i
                · subst hji; rw [updL_self]; trivial
                · rw [updL_ne _ _ hji]
                  have hjy : j ≠ y := fun e => hj (by simp [e])
                  have := h.ou j j0 j1 (by simp at hj ⊢; exact ⟨hji, hj⟩)
                  have e := gx j j0
                  cases hs : f j <;> rw [hs] at this <;> simp only [ouOK] at this ⊢ <;> first | trivial | (rw [e.1, e.2 hjy]; exact this) | (rw [e.1]; exact this)
              hd := fun j r e3 => by
                cases e3
                rw [updL_ne _ _ hyi, e]
                exact List.getElem?_set_self lw
              ch := chL_cong (fun x hx => (gx x (h.rng x (by simp at hx ⊢; right; exact hx)).1).1) (fun z hz => by
                have hz' : z ∈ l := by simpa using hz
                exact ⟨(gx z (h.rng z (by simp [hz'])).1).2 (fun e => (List.nodup_cons.1 nd.2).1 (e ▸ hz')), updL_ne _ _ (fun e => nd.1 (by subst e; simp [hz']))⟩) g.2.2 }
/-- Where there is a queue, somebody can go on. -/
theorem LI.live (h : LI b t lk W q f) (hq : q ≠ []) : ∃ i, 0 ≤ i ∧ i < t ∧ f i ≠ .out ∧ ¬ (f i = .a5 ∧ W[wtL b i]? = some 1) ∧ ¬ (f i = .r3 ∧ W[nxL b i]? = some 0) := by
  cases q with
  | nil => exact absurd rfl hq
  | cons x l =>
    have rx := h.rng x (by simp)
    have hh := h.hd x l rfl
    by_cases h3 : f x = .r3 ∧ W[nxL b x]? = some 0
    · rw [h3.1] at hh
      cases l with
      | nil => exact absurd rfl hh
      | cons y l =>
        have ry := h.rng y (by simp)
        rcases h.ch.2.1 with ⟨e, _⟩ | ⟨_, e⟩
        · exact ⟨y, ry.1, ry.2, by rw [e]; simp, by rw [e]; simp, by rw [e]; simp⟩
        · rw [e] at h3; have := h3.2; simp at this; omega
    · refine ⟨x, rx.1, rx.2, ?_, ?_, h3⟩
      · intro e; rw [e] at hh; exact hh
      · rintro ⟨e, e2⟩; rw [e] at hh; simp only [hdOK] at hh; rw [hh] at e2; simp at e2
end
end Den

/- GateRaces: the gate under many threads: its words. -/
set_option maxRecDepth 100000
set_option maxHeartbeats 1000000
set_option linter.unusedSimpArgs false
set_option linter.unusedVariables false
namespace Den
open Go Go.Proofs

/-- The gate's words, whoever has the lock. -/
structure GQ (b t : Int) (W : List Int) (v : Int) (Q : List Int) : Prop where
  b3 : 16 ≤ b
  len : b + t * 6 ≤ W.length
  ins : W[13]? = some v
  fst : W[14]? = some (hdA Q)
  lst : W[15]? = some (lsA Q)
  lnk : lnA b W Q
  wt : ∀ q ∈ Q, W[wtA b q]? = some 1
  nod : Q.Nodup
  rng : ∀ q ∈ Q, 0 ≤ q ∧ q < t
section
variable {b t : Int} {W : List Int} {v : Int} {Q : List Int}
theorem GQ.mono {W' : List Int} (h : GQ b t W v Q) (hl : W'.length = W.length) {v' : Int} (h13 : W'[13]? = some v') (h14 : W'[14]? = W[14]?) (h15 : W'[15]? = W[15]?)
    (hq : ∀ q ∈ Q, W'[nxA b q]? = W[nxA b q]? ∧ W'[wtA b q]? = W[wtA b q]?) : GQ b t W' v' Q where
  b3 := h.b3
  len := by rw [hl]; exact h.len
  ins := h13
  fst := by rw [h14]; exact h.fst
  lst := by rw [h15]; exact h.lst
  lnk := lnA_cong (fun q hx => (hq q hx).1) h.lnk
  wt q hx := by rw [(hq q hx).2]; exact h.wt q hx
  nod := h.nod
  rng := h.rng
theorem GQ.lk {W' : List Int} (h : GQ b t W v Q) (g : LkAg b t 12 W W') : GQ b t W' v Q := by
  have hb := h.b3
  refine h.mono g.1 ?_ ?_ ?_ (fun q hq => ⟨?_, ?_⟩)
  · rw [g.2 13 (by decide) (fun i h0 _ => by unfold nxL wtL; omega)]; exact h.ins
  · rw [g.2 14 (by decide) (fun i h0 _ => by unfold nxL wtL; omega)]
  · rw [g.2 15 (by decide) (fun i h0 _ => by unfold nxL wtL; omega)]
  · have r := h.rng q hq
    rw [g.2 _ (by unfold nxA; omega) (fun i h0 _ => by unfold nxL wtL nxA; omega)]
  · have r := h.rng q hq
    rw [g.2 _ (by unfold wtA; omega) (fun i h0 _ => by unfold nxL wtL wtA; omega)]
theorem LkAg.wtA {W' : List Int} (hb : 16 ≤ b) (g : LkAg b t 12 W W') {q : Int} (h0 : 0 ≤ q) : W'[wtA b q]? = W[wtA b q]? ∧ W'[nxA b q]? = W[nxA b q]? := by
  constructor
  · rw [g.2 _ (by unfold Den.wtA; omega) (fun i h0 _ => by unfold nxL wtL Den.wtA; omega)]
  · rw [g.2 _ (by unfold nxA; omega) (fun i h0 _ => by unfold nxL wtL nxA; omega)]
theorem GQ.has (h : GQ b t W v Q) {i : Int} (h0 : 0 ≤ i) (h1 : i < t) : nxA b i < W.length ∧ wtA b i < W.length := by
  have := h.b3; have := h.len
  unfold nxA wtA; omega
/-- A word of a node that is not in the queue. -/
theorem GQ.set (h : GQ b t W v Q) {i : Int} (h0 : 0 ≤ i) (hn : i ∉ Q) {k : Nat} (hk : k = nxA b i ∨ k = wtA b i) (x : Int) : GQ b t (W.set k x) v Q := by
  have hb := h.b3
  refine h.mono (by simp) ?_ ?_ ?_ (fun q hq => ?_)
  · rw [List.getElem?_set_ne (by unfold nxA wtA at hk; omega)]; exact h.ins
  · rw [List.getElem?_set_ne (by unfold nxA wtA at hk; omega)]
  · rw [List.getElem?_set_ne (by unfold nxA wtA at hk; omega)]
  · have r := h.rng q hq
    have ne : q ≠ i := fun e => hn (e ▸ hq)
    constructor
    · rw [List.getElem?_set_ne (by unfold nxA wtA at hk; unfold nxA; omega)]
    · rw [List.getElem?_set_ne (by unfold nxA wtA at hk; unfold wtA; omega)]
theorem GQ.num (h : GQ b t W v Q) (x : Int) : GQ b t (W.set 13 x) x Q := by
  have hb := h.b3; have len := h.len
  refine h.mono (by simp) ?_ ?_ ?_ (fun q hq => ?_)
  · rw [List.getElem?_set_self]; have := (List.getElem?_eq_some_iff.1 h.ins).1; exact this
  · rw [List.getElem?_set_ne (by omega)]
  · rw [List.getElem?_set_ne (by omega)]
  · have r := h.rng q hq
    constructor
    · rw [List.getElem?_set_ne (by unfold nxA; omega)]
    · rw [List.getElem?_set_ne (by unfold wtA; omega)]
theorem GQ.ls (h : GQ b t W v Q) (ht : 0 ≤ t) : 0 ≤ lsA Q ∧ lsA Q ≤ t * 2 ∧ (Q ≠ [] → ∃ q ∈ Q, lsA Q = rfA q ∧ 0 ≤ q ∧ q < t) ∧ (Q = [] → lsA Q = 0) := by
  by_cases hq : Q = []
  · subst hq
    exact ⟨by simp [lsA], by simp only [lsA]; omega, fun h => absurd rfl h, fun _ => rfl⟩
  · obtain ⟨q, hq', e⟩ := lsA_pos hq (fun x hx => (h.rng x hx).1)
    have r := h.rng q hq'
    unfold rfA at e
    exact ⟨by omega, by omega, fun _ => ⟨q, hq', by unfold rfA; exact e, r.1, r.2⟩, fun h => absurd h hq⟩
/-- The link to the one who comes. -/
theorem GQ.link (h : GQ b t W v Q) {i : Int} (ht : 0 ≤ t) (h0 : 0 ≤ i) (h1 : i < t) (hn : i ∉ Q) (hx : W[nxA b i]? = some 0) (hw : W[wtA b i]? = some 1) : GQ b t ((W.set (lkA b Q).toNat (rfA i)).set 15 (rfA i)) v (Q ++ [i]) ∧ 13 < (lkA b Q).toNat ∧ (lkA b Q).toNat < W.length ∧ (∀ j, 0 ≤ j → (lkA b Q).toNat ≠ nxL b j ∧ (lkA b Q).toNat ≠ wtL b j) ∧ (∀ j, 0 ≤ j → (lkA b Q).toNat ≠ wtA b j) := by
  have b3 := h.b3; have len := h.len
  obtain ⟨l0, l1, l2, l3⟩ := h.ls ht
  have lk : 13 < (lkA b Q).toNat ∧ (lkA b Q).toNat ≠ 15 ∧ (lkA b Q).toNat < W.length ∧ (Q = [] → (lkA b Q).toNat = 14) ∧ (Q ≠ [] → (lkA b Q).toNat ≠ 14 ∧ (lkA b Q).toNat = (b + (lsA Q - 1) * 3).toNat ∧ 0 < lsA Q) := by
    unfold lkA
    by_cases hq : Q = []
    · have := l3 hq
      rw [if_neg (by omega)]
      refine ⟨by omega, by omega, by omega, fun _ => rfl, fun h => absurd hq h⟩
    · obtain ⟨q, _, e, r1, r2⟩ := l2 hq
      unfold rfA at e
      rw [if_pos (by omega)]
      refine ⟨by omega, by omega, by omega, fun h => absurd h hq, fun _ => ⟨by omega, rfl, by omega⟩⟩
  have hmem : ∀ q ∈ Q, q ≠ i := fun q hq e => hn (e ▸ hq)
  have apart : (∀ j, 0 ≤ j → (lkA b Q).toNat ≠ nxL b j ∧ (lkA b Q).toNat ≠ wtL b j) ∧ (∀ j, 0 ≤ j → (lkA b Q).toNat ≠ wtA b j) ∧ (lkA b Q).toNat ≠ nxA b i := by
    by_cases hq : Q = []
    · have := lk.2.2.2.1 hq
      exact ⟨fun j j0 => by unfold nxL wtL; omega, fun j j0 => by unfold wtA; omega, by unfold nxA; omega⟩
    · obtain ⟨q, hq', e, r1, r2⟩ := l2 hq
      have := (lk.2.2.2.2 hq).2.1
      have := hmem q hq'
      unfold rfA at e
      exact ⟨fun j j0 => by unfold nxL wtL; omega, fun j j0 => by unfold wtA; omega, by unfold nxA; omega⟩
  have g : ∀ k, k ≠ 15 → k ≠ (lkA b Q).toNat → ((W.set (lkA b Q).toNat (rfA i)).set 15 (rfA i))[k]? = W[k]? := by
    intro k a1 a2
    rw [List.getElem?_set_ne a1.symm, List.getElem?_set_ne a2.symm]
  have gl : ((W.set (lkA b Q).toNat (rfA i)).set 15 (rfA i))[(lkA b Q).toNat]? = some (rfA i) := by
    rw [List.getElem?_set_ne (by omega), List.getElem?_set_self lk.2.2.1]
  have gq : ∀ q ∈ Q, (rfA q ≠ lsA Q → ((W.set (lkA b Q).toNat (rfA i)).set 15 (rfA i))[nxA b q]? = W[nxA b q]?) ∧ (rfA q = lsA Q → ((W.set (lkA b Q).toNat (rfA i)).set 15 (rfA i))[nxA b q]? = some (rfA i)) ∧ ((W.set (lkA b Q).toNat (rfA i)).set 15 (rfA i))[wtA b q]? = W[wtA b q]? := by
    intro q hq
    have r := h.rng q hq
    have hne : Q ≠ [] := fun e => by rw [e] at hq; simp at hq
    obtain ⟨_, e2, e3⟩ := lk.2.2.2.2 hne
    refine ⟨fun he => ?_, fun he => ?_, ?_⟩
    · unfold rfA at he; unfold nxA
      exact g _ (by omega) (by omega)
    · have : nxA b q = (lkA b Q).toNat := by rw [e2, ← he]; unfold rfA nxA; congr 2; omega
      rw [this, gl]
    · exact g _ (by unfold wtA; omega) (fun e => apart.2.1 q r.1 e.symm)
  have gx : ((W.set (lkA b Q).toNat (rfA i)).set 15 (rfA i))[nxA b i]? = some 0 := by
    rw [g _ (by unfold nxA; omega) (fun e => apart.2.2 e.symm)]; exact hx
  have gw : ((W.set (lkA b Q).toNat (rfA i)).set 15 (rfA i))[wtA b i]? = some 1 := by
    rw [g _ (by unfold wtA; omega) (fun e => apart.2.1 i h0 e.symm)]; exact hw
  refine ⟨⟨b3, by simpa using len, ?_, ?_, ?_, ?_, ?_, ?_, ?_⟩, lk.1, lk.2.2.1, apart.1, apart.2.1⟩
  · rw [g 13 (by omega) (by omega)]; exact h.ins
  · by_cases hq : Q = []
    · have := lk.2.2.2.1 hq
      rw [this] at gl
      rw [this, gl, hq]; rfl
    · have := (lk.2.2.2.2 hq).1
      rw [g 14 (by omega) (by omega), h.fst]
      cases Q with
      | nil => exact absurd rfl hq
      | cons a l => rfl
  · rw [lsA_app, List.getElem?_set_self (by simp; omega)]
  · by_cases hq : Q = []
    · subst hq; exact gx
    · exact lnA_app gx hq h.lnk (fun q hq he => (gq q hq).1 he) (fun q hq he => (gq q hq).2.1 he) h.nod
  · intro q hq
    simp only [List.mem_append, List.mem_singleton] at hq
    rcases hq with hq | rfl
    · rw [(gq q hq).2.2]; exact h.wt q hq
    · exact gw
  · rw [List.nodup_append]
    refine ⟨h.nod, by simp, ?_⟩
    intro a ha c hc
    simp at hc
    subst hc
    exact hmem a ha
  · intro q hq
    simp only [List.mem_append, List.mem_singleton] at hq
    rcases hq with hq | rfl
    · exact h.rng q hq
    · exact ⟨h0, h1⟩
theorem GQ.hdl {q : Int} (h : GQ b t W v (q :: Q)) : W[nxA b q]? = some (hdA Q) := by
  have := h.lnk
  cases Q with
  | nil => exact this
  | cons r l => exact this.1
/-- The first one is taken out. -/
theorem GQ.pop {q : Int} (h : GQ b t W v (q :: Q)) : (hdA Q = 0 → Q = [] ∧ GQ b t ((W.set 14 0).set 15 0) v []) ∧ (hdA Q ≠ 0 → GQ b t (W.set 14 (hdA Q)) v Q) := by
  have b3 := h.b3; have len := h.len
  have rq := h.rng q (by simp)
  have hnd := List.nodup_cons.1 h.nod
  constructor
  · intro e
    have hQ : Q = [] := by
      cases Q with
      | nil => rfl
      | cons r l => have := (h.rng r (by simp)).1; simp only [hdA, rfA] at e; omega
    subst hQ
    refine ⟨rfl, ⟨b3, by simpa using len, ?_, ?_, ?_, trivial, fun x hx => by simp at hx, by simp, fun x hx => by simp at hx⟩⟩
    · rw [List.getElem?_set_ne (by omega), List.getElem?_set_ne (by omega)]; exact h.ins
    · rw [List.getElem?_set_ne (by omega), List.getElem?_set_self (by omega)]; rfl
    · rw [List.getElem?_set_self (by simp; omega)]; rfl
  · intro e
    have hQ : Q ≠ [] := fun hh => e (by rw [hh]; rfl)
    refine ⟨b3, by simpa using len, ?_, ?_, ?_, ?_, ?_, hnd.2, fun x hx => h.rng x (by simp [hx])⟩
    · rw [List.getElem?_set_ne (by omega)]; exact h.ins
    · rw [List.getElem?_set_self (by omega)]
    · rw [List.getElem?_set_ne (by omega), h.lst]
      cases Q with
      | nil => exact absurd rfl hQ
      | cons r l => rfl
    · refine lnA_cong (fun x hx => ?_) (show lnA b W Q from ?_)
      · have r := h.rng x (by simp [hx])
        rw [List.getElem?_set_ne (by unfold nxA; omega)]
      · have := h.lnk
        cases Q with
        | nil => trivial
        | cons r l => exact this.2
    · intro x hx
      have r := h.rng x (by simp [hx])
      rw [List.getElem?_set_ne (by unfold wtA; omega)]
      exact h.wt x (by simp [hx])
/-- Words that are none of the lock's. -/
theorem LI.setG {q : List Int} {f : Int → LS} (h : LI b t 12 W q f) {k : Nat} (x : Int) (hk : k ≠ 12) (hw : ∀ j, 0 ≤ j → k ≠ nxL b j ∧ k ≠ wtL b j) : LI b t 12 (W.set k x) q f :=
  h.frame (by simp) (by rw [List.getElem?_set_ne (by simpa using hk)]) (fun j j0 _ => ⟨List.getElem?_set_ne (hw j j0).1, List.getElem?_set_ne (hw j j0).2⟩)
theorem LI.setA {q : List Int} {f : Int → LS} (h : LI b t 12 W q f) {i : Int} (h0 : 0 ≤ i) {k : Nat} (hk : k = nxA b i ∨ k = wtA b i) (x : Int) : LI b t 12 (W.set k x) q f := by
  have hb := h.b3
  exact h.setG x (by unfold nxA wtA at hk; omega) (fun j j0 => by unfold nxA wtA at hk; unfold nxL wtL; omega)
theorem LI.setS {q : List Int} {f : Int → LS} (h : LI b t 12 W q f) {k : Nat} (h1 : 12 < k) (h2 : k < 16) (x : Int) : LI b t 12 (W.set k x) q f := by
  have hb := h.b3
  exact h.setG x (by omega) (fun j j0 => by unfold nxL wtL; omega)
end
end Den

/- GateRaces: the invariant, and its steps. -/
set_option maxRecDepth 100000
set_option maxHeartbeats 1000000
set_option linter.unusedSimpArgs false
set_option linter.unusedVariables false
namespace Den
open Go Go.Proofs

/-- A visit: a program that enters, the steps inside, a program that leaves. -/
structure Vs where
  e : GP
  s : Int
  l : GP
def visP (b t i : Int) (v : Vs) (W : List Int) : Option (Vs × List Int × Bool) :=
  if v.e.st = 16 then
    if 0 < v.s then some ({ v with s := v.s - 1 }, W, false)
    else if v.l.st = 16 then some (v, W, false)
    else match leaveP b t i v.l W with
      | some (l', W', w) => some ({ v with l := l' }, W', w)
      | none => none
  else match enterP b t i v.e W with
    | some (e', W', w) => some ({ v with e := e' }, W', w)
    | none => none
/-- What the one who has the lock is about. -/
inductive Gp
  | clean | link (i : Int) | last (q : Int) | pend (q : Int)
def GW (b t : Int) (W : List Int) (v : Int) (Q : List Int) : Gp → Prop
  | .clean => GQ b t W v Q
  | .link i => GQ b t (W.set 15 (rfA i)) v (Q ++ [i])
  | .last q => Q = [] ∧ GQ b t (W.set 15 0) v []
  | .pend q => GQ b t W v Q
/-- A thread that does not have the lock. -/
inductive TN (b mo : Int) (W : List Int) (I Q : List Int) (G : Gp) (i : Int) (v : Vs) : LS → Prop
  | e1 : v.e.st = 1 → v.e.ty = acqT → v.e.en = false → v.e.mu = false → v.e.x = mo → (1 ≤ v.e.pc ∧ v.e.pc ≤ 5) → v.l = gp0 0 → 0 ≤ v.s → i ∉ I → i ∉ Q → TN b mo W I Q G i v (acqL v.e.pc v.e.ot)
  | e14 : v.e.st = 14 → v.e.ty = relT → v.e.en = false → (1 ≤ v.e.pc ∧ v.e.pc ≤ 4) → v.l = gp0 0 → 0 ≤ v.s → (v.e.mu = true ∧ i ∈ Q ∨ v.e.mu = false ∧ i ∈ I) → TN b mo W I Q G i v (relL v.e.pc v.e.ot)
  | e15 : v.e.st = 15 → v.l = gp0 0 → 0 ≤ v.s → (i ∈ Q ∨ i ∈ I ∧ (W[wtA b i]? = some 0 ∨ W[wtA b i]? = some 1 ∧ (G = .last i ∨ G = .pend i))) → TN b mo W I Q G i v .out
  | l1 : v.e.st = 16 → v.l.st = 1 → v.l.ty = acqT → v.l.en = false → (1 ≤ v.l.pc ∧ v.l.pc ≤ 5) → 0 ≤ v.s → i ∈ I → TN b mo W I Q G i v (acqL v.l.pc v.l.ot)
  | l14 : v.e.st = 16 → v.s = 0 → v.l.st = 14 → v.l.ty = relT → v.l.en = false → (1 ≤ v.l.pc ∧ v.l.pc ≤ 4) → i ∉ I → i ∉ Q → TN b mo W I Q G i v (relL v.l.pc v.l.ot)
  | l16 : v.e.st = 16 → v.s = 0 → v.l.st = 16 → i ∉ I → i ∉ Q → TN b mo W I Q G i v .out
/-- A thread that has it. -/
structure EB (mo : Int) (I Q : List Int) (i : Int) (v : Vs) : Prop where
  l : v.l = gp0 0
  s : 0 ≤ v.s
  x : v.e.x = mo
  ni : i ∉ I
  nq : i ∉ Q
inductive TO (b mo : Int) (W : List Int) (I Q : List Int) (G : Gp) (i : Int) (v : Vs) : Prop
  | e2 : EB mo I Q i v → v.e.st = 2 → v.e.mu = false → G = .clean → TO b mo W I Q G i v
  | e3 : EB mo I Q i v → v.e.st = 3 → v.e.mu = false → v.e.val = I.length → G = .clean → TO b mo W I Q G i v
  | e4 : EB mo I Q i v → v.e.st = 4 → v.e.mu = false → v.e.val = I.length → Q = [] → (I.length : Int) < mo → G = .clean → TO b mo W I Q G i v
  | e5 : EB mo I Q i v → v.e.st = 5 → v.e.mu = true → (I.length : Int) = mo → G = .clean → TO b mo W I Q G i v
  | e6 : EB mo I Q i v → v.e.st = 6 → v.e.mu = true → (I.length : Int) = mo → G = .clean → W[wtA b i]? = some 1 → TO b mo W I Q G i v
  | e7 : EB mo I Q i v → v.e.st = 7 → v.e.mu = true → (I.length : Int) = mo → G = .clean → W[wtA b i]? = some 1 → W[nxA b i]? = some 0 → TO b mo W I Q G i v
  | e8 : EB mo I Q i v → v.e.st = 8 → v.e.mu = true → (I.length : Int) = mo → G = .clean → W[wtA b i]? = some 1 → W[nxA b i]? = some 0 → v.e.val = lsA Q → TO b mo W I Q G i v
  | e9 : EB mo I Q i v → v.e.st = 9 → v.e.mu = true → (I.length : Int) = mo → G = .link i → TO b mo W I Q G i v
  | l3 : v.e.st = 16 → v.s = 0 → v.l.st = 3 → i ∈ I → G = .clean → TO b mo W I Q G i v
  | l2 : v.e.st = 16 → v.s = 0 → v.l.st = 2 → i ∈ I → Q = [] → G = .clean → TO b mo W I Q G i v
  | l4 : v.e.st = 16 → v.s = 0 → v.l.st = 4 → i ∈ I → Q = [] → v.l.val = I.length → G = .clean → TO b mo W I Q G i v
  | l10 (q : Int) (R : List Int) : v.e.st = 16 → v.s = 0 → v.l.st = 10 → i ∈ I → Q = q :: R → v.l.x = rfA q - 1 → G = .clean → TO b mo W I Q G i v
  | l11 (q : Int) (R : List Int) : v.e.st = 16 → v.s = 0 → v.l.st = 11 → i ∈ I → Q = q :: R → v.l.x = rfA q - 1 → v.l.val = hdA R → G = .clean → TO b mo W I Q G i v
  | l12 (q : Int) : v.e.st = 16 → v.s = 0 → v.l.st = 12 → i ∉ I → i ∉ Q → q ∈ I → v.l.x = rfA q - 1 → G = .last q → TO b mo W I Q G i v
  | l13 (q : Int) : v.e.st = 16 → v.s = 0 → v.l.st = 13 → i ∉ I → i ∉ Q → q ∈ I → v.l.x = rfA q - 1 → G = .pend q → TO b mo W I Q G i v
structure RI (b t mo : Int) (W : List Int) (q : List Int) (f : Int → LS) (I Q : List Int) (G : Gp) (V : Int → Vs) : Prop where
  lk : LI b t 12 W q f
  th : ∀ i, 0 ≤ i → i < t → TN b mo W I Q G i (V i) (f i) ∨ (f i = .own ∧ TO b mo W I Q G i (V i))
  gw : GW b t W I.length Q G
  cl : (∀ i, 0 ≤ i → i < t → f i ≠ .own) → G = .clean
  nd : (I ++ Q).Nodup
  rg : ∀ x ∈ I ++ Q, 0 ≤ x ∧ x < t
  full : Q ≠ [] → (I.length : Int) = mo
  le : (I.length : Int) ≤ mo
  m0 : 1 ≤ mo ∧ mo ≤ 64
def upV (V : Int → Vs) (i : Int) (v : Vs) : Int → Vs := fun j => if j = i then v else V j
theorem upV_self (V : Int → Vs) (i : Int) (v : Vs) : upV V i v i = v := by simp [upV]
theorem upV_ne (V : Int → Vs) {i j : Int} (v : Vs) (h : j ≠ i) : upV V i v j = V j := by simp [upV, h]
theorem acqL_ne (pc ot : Int) : acqL pc ot ≠ .own ∧ acqL pc ot ≠ .out := by
  unfold acqL; repeat' split
  all_goals simp
theorem relL_ne (pc ot : Int) : relL pc ot ≠ .own ∧ relL pc ot ≠ .out := by
  unfold relL; repeat' split
  all_goals simp
section
variable {b t mo : Int} {W W' : List Int} {I Q I' Q' : List Int} {G G' : Gp} {i : Int} {v : Vs} {s : LS}
/-- What the others do does not matter, as long as one's own standing is the same. -/
theorem TN.tr (h : TN b mo W I Q G i v s) (hI : i ∈ I' ↔ i ∈ I) (hQ : i ∈ Q' ↔ i ∈ Q) (hw : W'[wtA b i]? = W[wtA b i]?) (hG : G = .last i ∨ G = .pend i → G' = .last i ∨ G' = .pend i) : TN b mo W' I' Q' G' i v s := by
  cases h with
  | e1 a1 a2 a3 a4 a5 a6 a7 a8 a9 a10 => exact .e1 a1 a2 a3 a4 a5 a6 a7 a8 (by rwa [hI]) (by rwa [hQ])
  | e14 a1 a2 a3 a4 a5 a6 a7 => exact .e14 a1 a2 a3 a4 a5 a6 (by rwa [hI, hQ])
  | e15 a1 a2 a3 a4 =>
    refine .e15 a1 a2 a3 ?_
    rw [hI, hQ, hw]
    rcases a4 with h | ⟨h, h2 | ⟨h2, h3⟩⟩
    · exact Or.inl h
    · exact Or.inr ⟨h, Or.inl h2⟩
    · exact Or.inr ⟨h, Or.inr ⟨h2, hG h3⟩⟩
  | l1 a1 a2 a3 a4 a5 a6 a7 => exact .l1 a1 a2 a3 a4 a5 a6 (by rwa [hI])
  | l14 a1 a2 a3 a4 a5 a6 a7 a8 => exact .l14 a1 a2 a3 a4 a5 a6 (by rwa [hI]) (by rwa [hQ])
  | l16 a1 a2 a3 a4 a5 => exact .l16 a1 a2 a3 (by rwa [hI]) (by rwa [hQ])
theorem TO.lk (h : TO b mo W I Q G i v) (hw : W'[wtA b i]? = W[wtA b i]?) (hn : W'[nxA b i]? = W[nxA b i]?) : TO b mo W' I Q G i v := by
  cases h with
  | e2 a1 a2 a3 a4 => exact .e2 a1 a2 a3 a4
  | e3 a1 a2 a3 a4 a5 => exact .e3 a1 a2 a3 a4 a5
  | e4 a1 a2 a3 a4 a5 a6 a7 => exact .e4 a1 a2 a3 a4 a5 a6 a7
  | e5 a1 a2 a3 a4 a5 => exact .e5 a1 a2 a3 a4 a5
  | e6 a1 a2 a3 a4 a5 a6 => exact .e6 a1 a2 a3 a4 a5 (by rwa [hw])
  | e7 a1 a2 a3 a4 a5 a6 a7 => exact .e7 a1 a2 a3 a4 a5 (by rwa [hw]) (by rwa [hn])
  | e8 a1 a2 a3 a4 a5 a6 a7 a8 => exact .e8 a1 a2 a3 a4 a5 (by rwa [hw]) (by rwa [hn]) a8
  | e9 a1 a2 a3 a4 a5 => exact .e9 a1 a2 a3 a4 a5
  | l3 a1 a2 a3 a4 a5 => exact .l3 a1 a2 a3 a4 a5
  | l2 a1 a2 a3 a4 a5 a6 => exact .l2 a1 a2 a3 a4 a5 a6
  | l4 a1 a2 a3 a4 a5 a6 a7 => exact .l4 a1 a2 a3 a4 a5 a6 a7
  | l10 q R a1 a2 a3 a4 a5 a6 a7 => exact .l10 q R a1 a2 a3 a4 a5 a6 a7
  | l11 q R a1 a2 a3 a4 a5 a6 a7 a8 => exact .l11 q R a1 a2 a3 a4 a5 a6 a7 a8
  | l12 q a1 a2 a3 a4 a5 a6 a7 a8 => exact .l12 q a1 a2 a3 a4 a5 a6 a7 a8
  | l13 q a1 a2 a3 a4 a5 a6 a7 a8 => exact .l13 q a1 a2 a3 a4 a5 a6 a7 a8
theorem LkAg.set15 (g : LkAg b t 12 W W') (x : Int) : LkAg b t 12 (W.set 15 x) (W'.set 15 x) := by
  refine ⟨by simp [g.1], fun j h1 h2 => ?_⟩
  by_cases hj : 15 = j
  · subst hj
    by_cases hl : 15 < W.length
    · rw [List.getElem?_set_self hl, List.getElem?_set_self (by rw [g.1]; exact hl)]
    · have := g.1
      rw [List.getElem?_eq_none (by rw [List.length_set]; omega), List.getElem?_eq_none (by rw [List.length_set]; omega)]
  · rw [List.getElem?_set_ne hj, List.getElem?_set_ne hj, g.2 j h1 h2]
theorem GW.lk {n : Int} (h : GW b t W n Q G) (g : LkAg b t 12 W W') : GW b t W' n Q G := by
  cases G with
  | clean => exact GQ.lk h g
  | link i => exact GQ.lk h (g.set15 _)
  | last q => exact ⟨h.1, GQ.lk h.2 (g.set15 _)⟩
  | pend q => exact GQ.lk h g
end
section
variable {b t mo : Int} {W W' : List Int} {I Q I' Q' q q' : List Int} {G G' : Gp} {i : Int} {v v' : Vs} {s : LS} {f : Int → LS} {V : Int → Vs}
theorem LI.one (h : LI b t 12 W q f) {i j : Int} (i0 : 0 ≤ i) (i1 : i < t) (j0 : 0 ≤ j) (j1 : j < t) (hi : f i = .own ∨ ∃ pc ot, f i = relL pc ot) (hj : f j = .own) : i = j := by
  have hi' : f i = .own ∨ f i = .r1 ∨ f i = .r2 ∨ f i = .r3 ∨ ∃ o, f i = .r4 o := by
    rcases hi with e | ⟨pc, ot, e⟩
    · exact Or.inl e
    · rw [e]; unfold relL; repeat' split
      all_goals simp
  obtain ⟨l, e1, _⟩ := h.isHead i0 i1 hi'
  obtain ⟨l2, e2, _⟩ := h.isHead j0 j1 (Or.inl hj)
  rw [e1] at e2; cases e2; rfl
/-- A step of the lock's programs. -/
theorem RI.lockMove (h : RI b t mo W q f I Q G V) (h0 : 0 ≤ i) (h1 : i < t) (hf : f i ≠ .own) (hl : LI b t 12 W' q' (updL f i s)) (g : LkAg b t 12 W W') (ht : TN b mo W I Q G i v' s ∨ (s = .own ∧ (G = .clean → TO b mo W I Q G i v'))) : RI b t mo W' q' (updL f i s) I Q G (upV V i v') where
  lk := hl
  th j j0 j1 := by
    have hw := g.wtA h.lk.b3 j0
    by_cases hj : j = i
    · subst hj
      rw [updL_self, upV_self]
      rcases ht with ht | ⟨hs, ht⟩
      · exact Or.inl (ht.tr Iff.rfl Iff.rfl hw.1 id)
      · refine Or.inr ⟨hs, (ht (h.cl fun k k0 k1 hk => ?_)).lk hw.1 hw.2⟩
        have hkj : k ≠ j := fun e => hf (e ▸ hk)
        exact hkj (hl.one j0 j1 k0 k1 (Or.inl (by rw [updL_self]; exact hs)) (by rw [updL_ne _ _ hkj]; exact hk)).symm
    · rw [updL_ne _ _ hj, upV_ne _ _ hj]
      rcases h.th j j0 j1 with ht | ⟨hs, ht⟩
      · exact Or.inl (ht.tr Iff.rfl Iff.rfl hw.1 id)
      · exact Or.inr ⟨hs, ht.lk hw.1 hw.2⟩
  gw := h.gw.lk g
  cl hn := h.cl fun j j0 j1 hj => by
    have hji : j ≠ i := fun e => hf (e ▸ hj)
    exact hn j j0 j1 (by rw [updL_ne _ _ hji]; exact hj)
  nd := h.nd
  rg := h.rg
  full := h.full
  le := h.le
  m0 := h.m0
/-- A step of the one who has the lock. -/
theorem RI.ownMove (h : RI b t mo W q f I Q G V) (h0 : 0 ≤ i) (h1 : i < t) (hf : f i = .own) (hl : LI b t 12 W' q f) (gw : GW b t W' I'.length Q' G') (nd : (I' ++ Q').Nodup) (rg : ∀ x ∈ I' ++ Q', 0 ≤ x ∧ x < t) (full : Q' ≠ [] → (I'.length : Int) = mo) (le : (I'.length : Int) ≤ mo)
    (hs : s = .own ∨ s = .r1) (ho : ∀ j, 0 ≤ j → j < t → j ≠ i → TN b mo W I Q G j (V j) (f j) → TN b mo W' I' Q' G' j (V j) (f j)) (ht : (s = .own ∧ TO b mo W' I' Q' G' i v') ∨ (TN b mo W' I' Q' G' i v' s ∧ G' = .clean)) : RI b t mo W' q (updL f i s) I' Q' G' (upV V i v') where
  lk := by
    obtain ⟨l, e, _⟩ := hl.isHead h0 h1 (Or.inl hf)
    subst e
    exact hl.first (by rcases hs with e | e <;> rw [e] <;> trivial)
  th j j0 j1 := by
    by_cases hj : j = i
    · subst hj
      rw [updL_self, upV_self]
      rcases ht with ht | ht
      · exact Or.inr ht
      · exact Or.inl ht.1
    · rw [updL_ne _ _ hj, upV_ne _ _ hj]
      rcases h.th j j0 j1 with ht | ⟨hs, _⟩
      · exact Or.inl (ho j j0 j1 hj ht)
      · exact absurd (h.lk.one h0 h1 j0 j1 (Or.inl hf) hs).symm hj
  gw := gw
  cl hn := by
    rcases ht with ht | ht
    · exact absurd (by rw [updL_self]; exact ht.1) (hn i h0 h1)
    · exact ht.2
  nd := nd
  rg := rg
  full := full
  le := le
  m0 := h.m0
end
end Den

/- GateRaces: a step keeps the invariant. -/
set_option maxRecDepth 100000
set_option maxHeartbeats 1000000
set_option linter.unusedSimpArgs false
set_option linter.unusedVariables false
namespace Den
open Go Go.Proofs

theorem updL_same (f : Int → LS) (i : Int) : updL f i (f i) = f := by
  funext j
  by_cases hj : j = i
  · subst hj; rw [updL_self]
  · rw [updL_ne _ _ hj]
theorem updL_twice (f : Int → LS) (i : Int) (a c : LS) : updL (updL f i a) i c = updL f i c := by
  funext j
  by_cases hj : j = i
  · subst hj; rw [updL_self, updL_self]
  · rw [updL_ne _ _ hj, updL_ne _ _ hj, updL_ne _ _ hj]
theorem upV_same (V : Int → Vs) (i : Int) : upV V i (V i) = V := by
  funext j
  by_cases hj : j = i
  · subst hj; rw [upV_self]
  · rw [upV_ne _ _ hj]
def Stk (b : Int) (W : List Int) (i : Int) (v : Vs) (s : LS) : Prop := (s = .a5 ∧ W[wtL b i]? = some 1) ∨ (s = .r3 ∧ W[nxL b i]? = some 0) ∨ (v.e.st = 15 ∧ W[wtA b i]? = some 1)
section
variable {b t mo : Int} {W W' : List Int} {I Q I' Q' q q' : List Int} {G G' : Gp} {i : Int} {v v' : Vs} {s : LS} {f : Int → LS} {V : Int → Vs}
theorem TN.tr2 (h : TN b mo W I Q G i v s) (hI : i ∈ I' ↔ i ∈ I) (hQ : i ∈ Q' ↔ i ∈ Q) (hE : (i ∈ Q ∨ i ∈ I ∧ (W[wtA b i]? = some 0 ∨ W[wtA b i]? = some 1 ∧ (G = .last i ∨ G = .pend i))) → (i ∈ Q' ∨ i ∈ I' ∧ (W'[wtA b i]? = some 0 ∨ W'[wtA b i]? = some 1 ∧ (G' = .last i ∨ G' = .pend i)))) : TN b mo W' I' Q' G' i v s := by
  cases h with
  | e1 a1 a2 a3 a4 a5 a6 a7 a8 a9 a10 => exact .e1 a1 a2 a3 a4 a5 a6 a7 a8 (by rwa [hI]) (by rwa [hQ])
  | e14 a1 a2 a3 a4 a5 a6 a7 => exact .e14 a1 a2 a3 a4 a5 a6 (by rwa [hI, hQ])
  | e15 a1 a2 a3 a4 => exact .e15 a1 a2 a3 (hE a4)
  | l1 a1 a2 a3 a4 a5 a6 a7 => exact .l1 a1 a2 a3 a4 a5 a6 (by rwa [hI])
  | l14 a1 a2 a3 a4 a5 a6 a7 a8 => exact .l14 a1 a2 a3 a4 a5 a6 (by rwa [hI]) (by rwa [hQ])
  | l16 a1 a2 a3 a4 a5 => exact .l16 a1 a2 a3 (by rwa [hI]) (by rwa [hQ])
theorem GW.wt {n : Int} (h : GW b t W n Q G) (hb : 16 ≤ b) (h0 : 0 ≤ i) (hq : i ∈ Q) : W[wtA b i]? = some 1 := by
  have ne : ∀ x, (W.set 15 x)[wtA b i]? = W[wtA b i]? := fun x => List.getElem?_set_ne (by unfold wtA; omega)
  cases G with
  | clean => exact GQ.wt h i hq
  | link j => have := GQ.wt h i (by simp [hq]); rwa [ne] at this
  | last j => rw [h.1] at hq; simp at hq
  | pend j => exact GQ.wt h i hq
theorem nd_not (h : (I ++ Q).Nodup) (hi : i ∈ I) : i ∉ Q := fun hq => (List.nodup_append.1 h).2.2 i hi i hq rfl
theorem hdA_zero {q : List Int} (h : ∀ x ∈ q, 0 ≤ x) : hdA q = 0 ↔ q = [] := by
  cases q with
  | nil => simp [hdA]
  | cons r l =>
    have := h r (by simp)
    simp only [hdA, rfA]
    constructor
    · intro e; omega
    · intro e; cases e
theorem acqL_1 {p : GP} (h : p = gp0 0) : acqL p.pc p.ot = .a1 := by subst h; rfl
/-- A step of a thread that does not have the lock. -/
theorem ri_stepN (h : RI b t mo W q f I Q G V) (h0 : 0 ≤ i) (h1 : i < t) (hT : TN b mo W I Q G i (V i) (f i)) :
    ∃ v' W' w q' f', visP b t i (V i) W = some (v', W', w) ∧ RI b t mo W' q' f' I Q G (upV V i v') ∧ (w = true → Stk b W i (V i) (f i)) := by
  have hb := h.lk.b3
  generalize hs : f i = s at hT
  cases hT with
  | e1 a1 a2 a3 a4 a5 a6 a7 a8 a9 a10 =>
    obtain ⟨pc', ot', en, W', w, q', e, hl, hp, g, hw⟩ := acq_step h.lk h0 h1 a6 hs
    have e2 : enterP b t i (V i).e W = some ({ (V i).e with st := if en = true then 2 else 1, pc := pc', ot := ot', en := en }, W', w) := by
      unfold enterP; rw [if_pos a1, if_pos ⟨a2, a3⟩, e]
    have e3 : visP b t i (V i) W = some ({ V i with e := { (V i).e with st := if en = true then 2 else 1, pc := pc', ot := ot', en := en } }, W', w) := by
      unfold visP; rw [if_neg (by rw [a1]; decide), e2]
    refine ⟨_, W', w, q', _, e3, h.lockMove h0 h1 (by rw [hs]; exact (acqL_ne _ _).1) hl g ?_, fun h => Or.inl (by rw [← hs]; exact hw h)⟩
    cases en with
    | true => exact Or.inr ⟨rfl, fun hG => .e2 ⟨a7, a8, a5, a9, a10⟩ rfl a4 hG⟩
    | false => exact Or.inl (.e1 (v := { V i with e := { (V i).e with st := 1, pc := pc', ot := ot', en := false } }) rfl a2 rfl a4 a5 hp a7 a8 a9 a10)
  | e14 a1 a2 a3 a4 a5 a6 a7 =>
    obtain ⟨pc', ot', en, W', w, q', e, hl, hp, g, hw⟩ := rel_step h.lk h0 h1 a4 hs
    have e2 : enterP b t i (V i).e W = some ({ (V i).e with st := if en = true then (if (V i).e.mu = true then 15 else 16) else 14, pc := pc', ot := ot', en := en }, W', w) := by
      unfold enterP; rw [if_neg (by rw [a1]; decide), if_pos a1, if_pos ⟨a2, a3⟩, e]
    have e3 : visP b t i (V i) W = some ({ V i with e := { (V i).e with st := if en = true then (if (V i).e.mu = true then 15 else 16) else 14, pc := pc', ot := ot', en := en } }, W', w) := by
      unfold visP; rw [if_neg (by rw [a1]; decide), e2]
    have hw' : w = true → Stk b W i (V i) (relL (V i).e.pc (V i).e.ot) := fun h => Or.inr (Or.inl (by rw [← hs]; exact hw h))
    have hno : f i ≠ .own := by rw [hs]; exact (relL_ne _ _).1
    cases en with
    | false => exact ⟨_, W', w, q', _, e3, h.lockMove h0 h1 hno hl g (Or.inl (.e14 (v := { V i with e := { (V i).e with st := 14, pc := pc', ot := ot', en := false } }) rfl a2 rfl hp a5 a6 a7)), hw'⟩
    | true =>
      rcases a7 with ⟨hm, hq⟩ | ⟨hm, hi⟩
      · rw [hm] at e3
        exact ⟨_, W', w, q', _, e3, h.lockMove h0 h1 hno hl g (Or.inl (.e15 (v := { V i with e := { (V i).e with st := 15, pc := pc', ot := ot', en := true } }) rfl a5 a6 (Or.inl hq))), hw'⟩
      · rw [hm] at e3
        have hl2 := hl.start h0 h1 (updL_self _ _ _)
        rw [updL_twice] at hl2
        refine ⟨_, W', w, q', _, e3, h.lockMove h0 h1 hno hl2 g (Or.inl ?_), hw'⟩
        have := TN.l1 (b := b) (mo := mo) (W := W) (I := I) (Q := Q) (G := G) (i := i) (v := { V i with e := { (V i).e with st := 16, pc := pc', ot := ot', en := true } }) rfl (by show (V i).l.st = 1; rw [a5]; rfl) (by show (V i).l.ty = _; rw [a5]; rfl) (by show (V i).l.en = _; rw [a5]; rfl) (by show 1 ≤ (V i).l.pc ∧ (V i).l.pc ≤ 5; rw [a5]; decide) a6 hi
        rw [show acqL (V i).l.pc (V i).l.ot = .a1 from acqL_1 a5] at this
        exact this
  | e15 a1 a2 a3 a4 =>
    have hstay : W[wtA b i]? = some 1 → ∃ v' W' w q' f', visP b t i (V i) W = some (v', W', w) ∧ RI b t mo W' q' f' I Q G (upV V i v') ∧ (w = true → Stk b W i (V i) .out) := fun hw => by
      have hw' : W[(b + (i * 2 + 1) * 3 + 1).toNat]? = some 1 := hw
      have e2 : enterP b t i (V i).e W = some ((V i).e, W, true) := by simp [enterP, a1, hw']
      have e3 : visP b t i (V i) W = some (V i, W, true) := by
        unfold visP; rw [if_neg (by rw [a1]; decide), e2]
      exact ⟨V i, W, true, q, f, e3, by rw [upV_same]; exact h, fun _ => Or.inr (Or.inr ⟨a1, hw⟩)⟩
    rcases a4 with hq | ⟨hi, hw | ⟨hw, _⟩⟩
    · exact hstay (h.gw.wt hb h0 hq)
    · have hw' : W[(b + (i * 2 + 1) * 3 + 1).toNat]? = some 0 := hw
      have e2 : enterP b t i (V i).e W = some ({ (V i).e with st := 16 }, W, false) := by simp [enterP, a1, hw']
      have e3 : visP b t i (V i) W = some ({ V i with e := { (V i).e with st := 16 } }, W, false) := by
        unfold visP; rw [if_neg (by rw [a1]; decide), e2]
      refine ⟨_, W, false, q, _, e3, h.lockMove h0 h1 (by rw [hs]; simp) (h.lk.start h0 h1 hs) (LkAg.refl _ _ _ _) (Or.inl ?_), by simp⟩
      have := TN.l1 (b := b) (mo := mo) (W := W) (I := I) (Q := Q) (G := G) (i := i) (v := { V i with e := { (V i).e with st := 16 } }) rfl (by show (V i).l.st = 1; rw [a2]; rfl) (by show (V i).l.ty = _; rw [a2]; rfl) (by show (V i).l.en = _; rw [a2]; rfl) (by show 1 ≤ (V i).l.pc ∧ (V i).l.pc ≤ 5; rw [a2]; decide) a3 hi
      rw [show acqL (V i).l.pc (V i).l.ot = .a1 from acqL_1 a2] at this
      exact this
    · exact hstay hw
  | l1 a1 a2 a3 a4 a5 a6 a7 =>
    by_cases hp : 0 < (V i).s
    · have e3 : visP b t i (V i) W = some ({ V i with s := (V i).s - 1 }, W, false) := by
        unfold visP; rw [if_pos a1, if_pos hp]
      refine ⟨_, W, false, q, _, e3, h.lockMove (s := f i) h0 h1 (by rw [hs]; exact (acqL_ne _ _).1) (by rw [updL_same]; exact h.lk) (LkAg.refl _ _ _ _) (Or.inl ?_), by simp⟩
      rw [hs]
      exact .l1 (v := { V i with s := (V i).s - 1 }) a1 a2 a3 a4 a5 (by show 0 ≤ (V i).s - 1; omega) a7
    · have hz : (V i).s = 0 := by omega
      obtain ⟨pc', ot', en, W', w, q', e, hl, hp2, g, hw⟩ := acq_step h.lk h0 h1 a5 hs
      have e2 : leaveP b t i (V i).l W = some ({ (V i).l with st := if en = true then 3 else 1, pc := pc', ot := ot', en := en }, W', w) := by
        unfold leaveP; rw [if_pos a2, if_pos ⟨a3, a4⟩, e]
      have e3 : visP b t i (V i) W = some ({ V i with l := { (V i).l with st := if en = true then 3 else 1, pc := pc', ot := ot', en := en } }, W', w) := by
        unfold visP; rw [if_pos a1, if_neg hp, if_neg (by rw [a2]; decide), e2]
      refine ⟨_, W', w, q', _, e3, h.lockMove h0 h1 (by rw [hs]; exact (acqL_ne _ _).1) hl g ?_, fun h => Or.inl (by rw [← hs]; exact hw h)⟩
      cases en with
      | true => exact Or.inr ⟨rfl, fun hG => .l3 a1 hz rfl a7 hG⟩
      | false => exact Or.inl (.l1 (v := { V i with l := { (V i).l with st := 1, pc := pc', ot := ot', en := false } }) a1 rfl a3 rfl hp2 a6 a7)
  | l14 a1 a2 a3 a4 a5 a6 a7 a8 =>
    have hp : ¬ 0 < (V i).s := by omega
    obtain ⟨pc', ot', en, W', w, q', e, hl, hp2, g, hw⟩ := rel_step h.lk h0 h1 a6 hs
    have e2 : leaveP b t i (V i).l W = some ({ (V i).l with st := if en = true then 16 else 14, pc := pc', ot := ot', en := en }, W', w) := by
      unfold leaveP; rw [if_neg (by rw [a3]; decide), if_pos a3, if_pos ⟨a4, a5⟩, e]
    have e3 : visP b t i (V i) W = some ({ V i with l := { (V i).l with st := if en = true then 16 else 14, pc := pc', ot := ot', en := en } }, W', w) := by
      unfold visP; rw [if_pos a1, if_neg hp, if_neg (by rw [a3]; decide), e2]
    refine ⟨_, W', w, q', _, e3, h.lockMove h0 h1 (by rw [hs]; exact (relL_ne _ _).1) hl g (Or.inl ?_), fun h => Or.inr (Or.inl (by rw [← hs]; exact hw h))⟩
    cases en with
    | true => exact .l16 (v := { V i with l := { (V i).l with st := 16, pc := pc', ot := ot', en := true } }) a1 a2 rfl a7 a8
    | false => exact .l14 (v := { V i with l := { (V i).l with st := 14, pc := pc', ot := ot', en := false } }) a1 a2 rfl a4 rfl hp2 a7 a8
  | l16 a1 a2 a3 a4 a5 =>
    have e3 : visP b t i (V i) W = some (V i, W, false) := by
      unfold visP; rw [if_pos a1, if_neg (by omega), if_pos a3]
    exact ⟨V i, W, false, q, f, e3, by rw [upV_same]; exact h, by simp⟩
end
end Den

/- GateRaces: the steps of the one who has the lock. -/
set_option maxRecDepth 100000
set_option maxHeartbeats 1000000
set_option linter.unusedSimpArgs false
set_option linter.unusedVariables false
namespace Den
open Go Go.Proofs

section
variable {b t mo : Int} {W W' : List Int} {I Q I' Q' q q' : List Int} {G G' : Gp} {i : Int} {v v' : Vs} {s : LS} {f : Int → LS} {V : Int → Vs}
theorem vis_e (h : ¬ v.e.st = 16) {e' : GP} {w : Bool} (he : enterP b t i v.e W = some (e', W', w)) : visP b t i v W = some ({ v with e := e' }, W', w) := by
  unfold visP; rw [if_neg h, he]
theorem vis_l (h : v.e.st = 16) (hs : v.s = 0) (hl : ¬ v.l.st = 16) {l' : GP} {w : Bool} (he : leaveP b t i v.l W = some (l', W', w)) : visP b t i v W = some ({ v with l := l' }, W', w) := by
  unfold visP; rw [if_pos h, if_neg (by omega), if_neg hl, he]
theorem GW.cleanW {n : Int} (h : GW b t W n Q G) (hG : G = .clean) : GQ b t W n Q := by subst hG; exact h
theorem ri_stepO (ht : 0 ≤ t) (h : RI b t mo W q f I Q G V) (h0 : 0 ≤ i) (h1 : i < t) (hf : f i = .own) (hT : TO b mo W I Q G i (V i)) :
    ∃ v' W' f' I' Q' G', visP b t i (V i) W = some (v', W', false) ∧ RI b t mo W' q f' I' Q' G' (upV V i v') := by
  have hb := h.lk.b3
  have hlen := h.lk.len
  have hm0 := h.m0
  have hle := h.le
  have same : ∀ j, 0 ≤ j → j < t → j ≠ i → TN b mo W I Q G j (V j) (f j) → TN b mo W I Q G j (V j) (f j) := fun _ _ _ _ h => h
  have w13 : ∀ x j, (W.set 13 x)[wtA b j]? = W[wtA b j]? ∨ j < 0 := fun x j => by
    by_cases hj : j < 0
    · exact Or.inr hj
    · exact Or.inl (List.getElem?_set_ne (by unfold wtA; omega))
  have wk : ∀ (k : Nat) x j, k < 16 → 0 ≤ j → (W.set k x)[wtA b j]? = W[wtA b j]? := fun k x j hk hj => List.getElem?_set_ne (by unfold wtA; omega)
  cases hT with
  | e2 a1 a2 a3 a4 =>
    subst a4
    have e := vis_e (v := V i) (i := i) (b := b) (t := t) (W := W) (by omega) (e' := { (V i).e with st := 3, val := I.length }) (W' := W) (w := false) (by simp [enterP, a2, h.gw.cleanW rfl |>.ins])
    exact ⟨_, W, _, I, Q, .clean, e, h.ownMove h0 h1 hf h.lk h.gw h.nd h.rg h.full h.le (Or.inl rfl) same (Or.inl ⟨rfl, .e3 ⟨a1.l, a1.s, a1.x, a1.ni, a1.nq⟩ rfl a3 rfl rfl⟩)⟩
  | e3 a1 a2 a3 a4 a5 =>
    subst a5
    have g := h.gw.cleanW rfl
    have hz := hdA_zero (q := Q) (fun x hx => (g.rng x hx).1)
    have hx := a1.x
    by_cases hc : Q = [] ∧ (I.length : Int) < mo
    · have hh := hz.2 hc.1
      have e := vis_e (v := V i) (i := i) (b := b) (t := t) (W := W) (by omega) (e' := { (V i).e with st := 4 }) (W' := W) (w := false) (by
        have c1 : (0 : Int) ≤ mo ∧ mo ≤ 1000 := by omega
        simp [enterP, a2, g.fst, hh, hx, a4, hc.2, c1])
      exact ⟨_, W, _, I, Q, .clean, e, h.ownMove h0 h1 hf h.lk h.gw h.nd h.rg h.full h.le (Or.inl rfl) same (Or.inl ⟨rfl, .e4 ⟨a1.l, a1.s, a1.x, a1.ni, a1.nq⟩ rfl a3 a4 hc.1 hc.2 rfl⟩)⟩
    · have hh : ¬ (hdA Q = 0 ∧ (I.length : Int) < mo) := fun hh => hc ⟨hz.1 hh.1, hh.2⟩
      have e := vis_e (v := V i) (i := i) (b := b) (t := t) (W := W) (by omega) (e' := { (V i).e with st := 5, mu := true }) (W' := W) (w := false) (by
        have c1 : (0 : Int) ≤ mo ∧ mo ≤ 1000 := by omega
        unfold enterP
        rw [if_neg (by omega), if_neg (by omega), if_neg (by omega), if_pos a2, g.fst]
        simp only [hx, a4, if_pos c1, if_neg hh])
      have hfu : (I.length : Int) = mo := by
        by_cases hq : Q = []
        · have : ¬ (I.length : Int) < mo := fun hl => hc ⟨hq, hl⟩
          omega
        · exact h.full hq
      exact ⟨_, W, _, I, Q, .clean, e, h.ownMove h0 h1 hf h.lk h.gw h.nd h.rg h.full h.le (Or.inl rfl) same (Or.inl ⟨rfl, .e5 ⟨a1.l, a1.s, a1.x, a1.ni, a1.nq⟩ rfl rfl hfu rfl⟩)⟩
  | e4 a1 a2 a3 a4 a5 a6 a7 =>
    subst a7
    have g := h.gw.cleanW rfl
    have e := vis_e (v := V i) (i := i) (b := b) (t := t) (W := W) (by omega) (e' := { (V i).e with st := 14, ty := relT, pc := 1, ot := 0, en := false }) (W' := W.set 13 (I.length + 1)) (w := false) (by
      have c1 : 0 ≤ (V i).e.val ∧ (V i).e.val ≤ 1000 := by omega
      unfold enterP
      rw [if_neg (by omega), if_neg (by omega), if_neg (by omega), if_neg (by omega), if_pos a2, if_pos c1]
      simp only [g.ins, a4])
    have hlen' : (((I ++ [i]).length : Nat) : Int) = I.length + 1 := by simp
    refine ⟨_, _, _, I ++ [i], Q, .clean, e, h.ownMove (s := .r1) h0 h1 hf (h.lk.setS (by omega) (by omega) _) ?_ ?_ ?_ ?_ (by omega) (Or.inr rfl) ?_ (Or.inr ⟨?_, rfl⟩)⟩
    · show GQ b t (W.set 13 (I.length + 1)) ((I ++ [i]).length : Nat) Q
      rw [hlen']; exact g.num _
    · subst a5
      rw [List.append_nil, List.nodup_append]
      refine ⟨(List.nodup_append.1 h.nd).1, by simp, fun a ha c hc => ?_⟩
      simp at hc; subst hc
      intro e; subst e; exact a1.ni ha
    · intro x hx
      simp only [List.mem_append, List.mem_singleton] at hx
      rcases hx with (hx | rfl) | hx
      · exact h.rg x (by simp [hx])
      · exact ⟨h0, h1⟩
      · exact h.rg x (by simp [hx])
    · intro hq; exact absurd a5 hq
    · intro j j0 j1 hj hh
      exact hh.tr (by simp [hj]) Iff.rfl (wk 13 _ j (by omega) j0) (fun hG => by simp at hG)
    · exact .e14 (v := { V i with e := { (V i).e with st := 14, ty := relT, pc := 1, ot := 0, en := false } }) rfl rfl rfl (by show (1 : Int) ≤ 1 ∧ (1 : Int) ≤ 4; omega) a1.l a1.s (Or.inr ⟨a3, by simp⟩)
  | e5 a1 a2 a3 a4 a5 =>
    subst a5
    have g := h.gw.cleanW rfl
    obtain ⟨n1, n2⟩ := g.has h0 h1
    have hx : W[(b + (i * 2 + 1) * 3 + 1).toNat]? = some (W[wtA b i]'n2) := List.getElem?_eq_getElem n2
    have e := vis_e (v := V i) (i := i) (b := b) (t := t) (W := W) (by omega) (e' := { (V i).e with st := 6 }) (W' := W.set (wtA b i) 1) (w := false) (by
      unfold enterP
      rw [if_neg (by omega), if_neg (by omega), if_neg (by omega), if_neg (by omega), if_neg (by omega), if_pos a2, hx]; rfl)
    refine ⟨_, _, _, I, Q, .clean, e, h.ownMove h0 h1 hf (h.lk.setA h0 (Or.inr rfl) _) (g.set h0 a1.nq (Or.inr rfl) _) h.nd h.rg h.full h.le (Or.inl rfl) ?_ (Or.inl ⟨rfl, .e6 ⟨a1.l, a1.s, a1.x, a1.ni, a1.nq⟩ rfl a3 a4 rfl (List.getElem?_set_self n2)⟩)⟩
    intro j j0 j1 hj hh
    exact hh.tr Iff.rfl Iff.rfl (List.getElem?_set_ne (by unfold wtA; omega)) (fun hG => hG)
  | e6 a1 a2 a3 a4 a5 a6 =>
    subst a5
    have g := h.gw.cleanW rfl
    obtain ⟨n1, n2⟩ := g.has h0 h1
    have hx : W[(b + (i * 2 + 1) * 3).toNat]? = some (W[nxA b i]'n1) := List.getElem?_eq_getElem n1
    have e := vis_e (v := V i) (i := i) (b := b) (t := t) (W := W) (by omega) (e' := { (V i).e with st := 7 }) (W' := W.set (nxA b i) 0) (w := false) (by
      unfold enterP
      rw [if_neg (by omega), if_neg (by omega), if_neg (by omega), if_neg (by omega), if_neg (by omega), if_neg (by omega), if_pos a2, hx]; rfl)
    refine ⟨_, _, _, I, Q, .clean, e, h.ownMove h0 h1 hf (h.lk.setA h0 (Or.inl rfl) _) (g.set h0 a1.nq (Or.inl rfl) _) h.nd h.rg h.full h.le (Or.inl rfl) ?_ (Or.inl ⟨rfl, .e7 ⟨a1.l, a1.s, a1.x, a1.ni, a1.nq⟩ rfl a3 a4 rfl ?_ (List.getElem?_set_self n1)⟩)⟩
    · intro j j0 j1 hj hh
      exact hh.tr Iff.rfl Iff.rfl (List.getElem?_set_ne (by unfold wtA nxA; omega)) (fun hG => hG)
    · rw [List.getElem?_set_ne (by unfold wtA nxA; omega)]; exact a6
  | e7 a1 a2 a3 a4 a5 a6 a7 =>
    subst a5
    have g := h.gw.cleanW rfl
    have e := vis_e (v := V i) (i := i) (b := b) (t := t) (W := W) (by omega) (e' := { (V i).e with st := 8, val := lsA Q }) (W' := W) (w := false) (by
      unfold enterP
      rw [if_neg (by omega), if_neg (by omega), if_neg (by omega), if_neg (by omega), if_neg (by omega), if_neg (by omega), if_neg (by omega), if_pos a2, g.lst])
    exact ⟨_, W, _, I, Q, .clean, e, h.ownMove h0 h1 hf h.lk h.gw h.nd h.rg h.full h.le (Or.inl rfl) same (Or.inl ⟨rfl, .e8 ⟨a1.l, a1.s, a1.x, a1.ni, a1.nq⟩ rfl a3 a4 rfl a6 a7 rfl⟩)⟩
  | e8 a1 a2 a3 a4 a5 a6 a7 a8 =>
    subst a5
    have g := h.gw.cleanW rfl
    obtain ⟨l0, l1, l2, l3⟩ := g.ls ht
    obtain ⟨g2, k1, k2, k3, k4⟩ := g.link ht h0 h1 a1.nq a7 a6
    obtain ⟨y, hx⟩ : ∃ y, W[(lkA b Q).toNat]? = some y := ⟨_, List.getElem?_eq_getElem k2⟩
    have e := vis_e (v := V i) (i := i) (b := b) (t := t) (W := W) (by omega) (e' := { (V i).e with st := 9 }) (W' := W.set (lkA b Q).toNat (rfA i)) (w := false) (by
      unfold enterP
      rw [if_neg (by omega), if_neg (by omega), if_neg (by omega), if_neg (by omega), if_neg (by omega), if_neg (by omega), if_neg (by omega), if_neg (by omega), if_pos a2]
      by_cases hp : 0 < lsA Q
      · have hk : lkA b Q = b + (lsA Q - 1) * 3 := by unfold lkA; rw [if_pos hp]
        rw [hk] at hx
        simp only [a8, if_pos hp, if_pos l1, hx, hk, rfA]
      · have hk : lkA b Q = 14 := by unfold lkA; rw [if_neg hp]
        rw [hk] at hx
        have hx' : W[14]? = some y := hx
        simp only [a8, if_neg hp, hx', hk, rfA]; rfl)
    refine ⟨_, _, _, I, Q, .link i, e, h.ownMove h0 h1 hf (h.lk.setG _ (by omega) k3) g2 h.nd h.rg h.full h.le (Or.inl rfl) ?_ (Or.inl ⟨rfl, .e9 ⟨a1.l, a1.s, a1.x, a1.ni, a1.nq⟩ rfl a3 a4 rfl⟩)⟩
    intro j j0 j1 hj hh
    exact hh.tr Iff.rfl Iff.rfl (List.getElem?_set_ne (k4 j j0)) (fun hG => by simp at hG)
  | e9 a1 a2 a3 a4 a5 =>
    subst a5
    have g2 : GQ b t (W.set 15 (rfA i)) I.length (Q ++ [i]) := h.gw
    have l15 : 15 < W.length := by omega
    have hx : W[15]? = some (W[15]'l15) := List.getElem?_eq_getElem l15
    have e := vis_e (v := V i) (i := i) (b := b) (t := t) (W := W) (by omega) (e' := { (V i).e with st := 14, ty := relT, pc := 1, ot := 0, en := false }) (W' := W.set 15 (rfA i)) (w := false) (by
      unfold enterP
      rw [if_neg (by omega), if_neg (by omega), if_neg (by omega), if_neg (by omega), if_neg (by omega), if_neg (by omega), if_neg (by omega), if_neg (by omega), if_neg (by omega), if_pos a2, hx]; rfl)
    refine ⟨_, _, _, I, Q ++ [i], .clean, e, h.ownMove (s := .r1) h0 h1 hf (h.lk.setS (by omega) (by omega) _) g2 ?_ ?_ (fun _ => a4) h.le (Or.inr rfl) ?_ (Or.inr ⟨?_, rfl⟩)⟩
    · rw [← List.append_assoc, List.nodup_append]
      refine ⟨h.nd, by simp, fun a ha c hc => ?_⟩
      simp at hc; subst hc
      intro e; subst e
      simp only [List.mem_append] at ha
      rcases ha with ha | ha
      · exact a1.ni ha
      · exact a1.nq ha
    · intro x hx
      simp only [List.mem_append, List.mem_singleton] at hx
      rcases hx with hx | hx | rfl
      · exact h.rg x (by simp [hx])
      · exact h.rg x (by simp [hx])
      · exact ⟨h0, h1⟩
    · intro j j0 j1 hj hh
      exact hh.tr Iff.rfl (by simp [hj]) (wk 15 _ j (by omega) j0) (fun hG => by simp at hG)
    · exact .e14 (v := { V i with e := { (V i).e with st := 14, ty := relT, pc := 1, ot := 0, en := false } }) rfl rfl rfl (by show (1 : Int) ≤ 1 ∧ (1 : Int) ≤ 4; omega) a1.l a1.s (Or.inl ⟨a3, by simp⟩)
  | l3 a1 a2 a3 a4 a5 =>
    subst a5
    have g := h.gw.cleanW rfl
    cases hq : Q with
    | nil =>
      subst hq
      have e := vis_l (v := V i) (i := i) (b := b) (t := t) (W := W) a1 a2 (by omega) (l' := { (V i).l with st := 2 }) (W' := W) (w := false) (by
        unfold leaveP
        rw [if_neg (by omega), if_neg (by omega), if_pos a3, g.fst]; rfl)
      exact ⟨_, W, _, I, [], .clean, e, h.ownMove h0 h1 hf h.lk h.gw h.nd h.rg h.full h.le (Or.inl rfl) same (Or.inl ⟨rfl, .l2 a1 a2 rfl a4 rfl rfl⟩)⟩
    | cons x R =>
      subst hq
      have rx := g.rng x (by simp)
      have e := vis_l (v := V i) (i := i) (b := b) (t := t) (W := W) a1 a2 (by omega) (l' := { (V i).l with st := 10, x := rfA x - 1 }) (W' := W) (w := false) (by
        unfold leaveP
        rw [if_neg (by omega), if_neg (by omega), if_pos a3, g.fst]
        have c1 : ¬ rfA x = 0 := by unfold rfA; omega
        have c2 : 1 ≤ rfA x ∧ rfA x ≤ t * 2 := by unfold rfA; omega
        show (if hdA (x :: R) = 0 then _ else _) = _
        rw [if_neg (show ¬ hdA (x :: R) = 0 from c1), if_pos (show 1 ≤ hdA (x :: R) ∧ hdA (x :: R) ≤ t * 2 from c2)]; rfl)
      exact ⟨_, W, _, I, x :: R, .clean, e, h.ownMove h0 h1 hf h.lk h.gw h.nd h.rg h.full h.le (Or.inl rfl) same (Or.inl ⟨rfl, .l10 x R a1 a2 rfl a4 rfl rfl rfl⟩)⟩
  | l2 a1 a2 a3 a4 a5 a6 =>
    subst a6
    have g := h.gw.cleanW rfl
    have e := vis_l (v := V i) (i := i) (b := b) (t := t) (W := W) a1 a2 (by omega) (l' := { (V i).l with st := 4, val := I.length }) (W' := W) (w := false) (by
      unfold leaveP
      rw [if_neg (by omega), if_neg (by omega), if_neg (by omega), if_pos a3, g.ins])
    exact ⟨_, W, _, I, Q, .clean, e, h.ownMove h0 h1 hf h.lk h.gw h.nd h.rg h.full h.le (Or.inl rfl) same (Or.inl ⟨rfl, .l4 a1 a2 rfl a4 a5 rfl rfl⟩)⟩
  | l4 a1 a2 a3 a4 a5 a6 a7 =>
    subst a7
    have g := h.gw.cleanW rfl
    have ndI := (List.nodup_append.1 h.nd).1
    have hp := List.length_pos_of_mem a4
    have e := vis_l (v := V i) (i := i) (b := b) (t := t) (W := W) a1 a2 (by omega) (l' := { (V i).l with st := 14, ty := relT, pc := 1, ot := 0, en := false }) (W' := W.set 13 (I.length - 1)) (w := false) (by
      unfold leaveP
      rw [if_neg (by omega), if_neg (by omega), if_neg (by omega), if_neg (by omega), if_pos a3, if_pos (show 1 ≤ (V i).l.val ∧ (V i).l.val ≤ 1000 by omega)]
      simp only [g.ins, a6])
    have hlen' : (((I.erase i).length : Nat) : Int) = I.length - 1 := by rw [List.length_erase_of_mem a4]; omega
    subst a5
    refine ⟨_, _, _, I.erase i, [], .clean, e, h.ownMove (s := .r1) h0 h1 hf (h.lk.setS (by omega) (by omega) _) ?_ ?_ ?_ (fun hq => absurd rfl hq) (by omega) (Or.inr rfl) ?_ (Or.inr ⟨?_, rfl⟩)⟩
    · show GQ b t (W.set 13 (I.length - 1)) ((I.erase i).length : Nat) []
      rw [hlen']; exact g.num _
    · rw [List.append_nil]; exact ndI.erase _
    · intro x hx
      rw [List.append_nil] at hx
      exact h.rg x (by simp [List.mem_of_mem_erase hx])
    · intro j j0 j1 hj hh
      exact hh.tr (by rw [ndI.mem_erase_iff]; simp [hj]) Iff.rfl (wk 13 _ j (by omega) j0) (fun hG => by simp at hG)
    · exact .l14 (v := { V i with l := { (V i).l with st := 14, ty := relT, pc := 1, ot := 0, en := false } }) a1 a2 rfl rfl rfl (by show (1 : Int) ≤ 1 ∧ (1 : Int) ≤ 4; omega) (by rw [ndI.mem_erase_iff]; simp) (by simp)
  | l10 x R a1 a2 a3 a4 a5 a6 a7 =>
    subst a7; subst a5
    have g := h.gw.cleanW rfl
    have rx := g.rng x (by simp)
    have hx := g.hdl
    have hx' : W[(b + (rfA x - 1) * 3).toNat]? = some (hdA R) := by
      rw [show b + (rfA x - 1) * 3 = b + (x * 2 + 1) * 3 by unfold rfA; omega]; exact hx
    have e := vis_l (v := V i) (i := i) (b := b) (t := t) (W := W) a1 a2 (by omega) (l' := { (V i).l with st := 11, val := hdA R }) (W' := W) (w := false) (by
      unfold leaveP
      rw [if_neg (by omega), if_neg (by omega), if_neg (by omega), if_neg (by omega), if_neg (by omega), if_pos a3, if_pos (show 0 ≤ (V i).l.x ∧ (V i).l.x < t * 2 by rw [a6]; unfold rfA; omega)]
      simp only [a6, hx'])
    exact ⟨_, W, _, I, x :: R, .clean, e, h.ownMove h0 h1 hf h.lk h.gw h.nd h.rg h.full h.le (Or.inl rfl) same (Or.inl ⟨rfl, .l11 x R a1 a2 rfl a4 rfl a6 rfl rfl⟩)⟩
  | l11 x R a1 a2 a3 a4 a5 a6 a7 a8 =>
    subst a8; subst a5
    have g := h.gw.cleanW rfl
    have rx := g.rng x (by simp)
    have hnd := List.nodup_append.1 h.nd
    have ndI := hnd.1
    have hp := List.length_pos_of_mem a4
    have hxI : x ∉ I := fun hx => hnd.2.2 x hx x (by simp) rfl
    have hxi : x ≠ i := fun e => hxI (e ▸ a4)
    have hiQ : i ∉ x :: R := nd_not h.nd a4
    have hlen' : (((I.erase i ++ [x]).length : Nat) : Int) = I.length := by
      rw [List.length_append, List.length_erase_of_mem a4]; simp; omega
    have nd' : (I.erase i ++ [x] ++ R).Nodup := by
      have : (I.erase i ++ (x :: R)).Nodup := h.nd.sublist (List.Sublist.append List.erase_sublist (List.Sublist.refl _))
      simpa using this
    have rg' : ∀ y ∈ I.erase i ++ [x] ++ R, 0 ≤ y ∧ y < t := fun y hy => by
      simp only [List.mem_append, List.mem_singleton] at hy
      rcases hy with (hy | rfl) | hy
      · exact h.rg y (by simp [List.mem_of_mem_erase hy])
      · exact rx
      · exact h.rg y (by simp [hy])
    have hiI : i ∉ I.erase i ++ [x] := by
      simp only [List.mem_append, List.mem_singleton, ndI.mem_erase_iff]
      rintro (⟨h, _⟩ | h)
      · exact h rfl
      · exact hxi h.symm
    obtain ⟨p1, p2⟩ := g.pop
    have hwx := g.wt x (by simp)
    have oth : ∀ (W' : List Int) (G' : Gp), (∀ j, 0 ≤ j → W'[wtA b j]? = W[wtA b j]?) → (G' = .last x ∨ G' = .pend x) → ∀ j, 0 ≤ j → j < t → j ≠ i → TN b mo W I (x :: R) .clean j (V j) (f j) → TN b mo W' (I.erase i ++ [x]) R G' j (V j) (f j) := by
      intro W' G' hw hG j j0 j1 hj hh
      by_cases hjx : j = x
      · subst hjx
        generalize hs : f j = s at hh
        cases hh with
        | e1 b1 b2 b3 b4 b5 b6 b7 b8 b9 b10 => exact absurd (by simp) b10
        | e14 b1 b2 b3 b4 b5 b6 b7 =>
          exact absurd (h.lk.one j0 j1 h0 h1 (Or.inr ⟨_, _, hs⟩) hf) hxi
        | e15 b1 b2 b3 b4 => exact .e15 b1 b2 b3 (Or.inr ⟨by simp, Or.inr ⟨by rw [hw j j0]; exact hwx, hG⟩⟩)
        | l1 b1 b2 b3 b4 b5 b6 b7 => exact absurd b7 hxI
        | l14 b1 b2 b3 b4 b5 b6 b7 b8 => exact absurd (by simp) b8
        | l16 b1 b2 b3 b4 b5 => exact absurd (by simp) b5
      · exact hh.tr (by simp only [List.mem_append, List.mem_singleton, ndI.mem_erase_iff]; simp [hj, hjx]) (by simp [hjx]) (hw j j0) (fun hG => by simp at hG)
    have l14 : 14 < W.length := by omega
    by_cases hz : hdA R = 0
    · obtain ⟨hR, g2⟩ := p1 hz
      have e := vis_l (v := V i) (i := i) (b := b) (t := t) (W := W) a1 a2 (by omega) (l' := { (V i).l with st := 12 }) (W' := W.set 14 0) (w := false) (by
        unfold leaveP
        rw [if_neg (by omega), if_neg (by omega), if_neg (by omega), if_neg (by omega), if_neg (by omega), if_neg (by omega), if_pos a3, g.fst]
        simp only [a7, if_pos hz])
      refine ⟨_, _, _, I.erase i ++ [x], R, .last x, e, h.ownMove h0 h1 hf (h.lk.setS (by omega) (by omega) _) ⟨hR, by rw [hlen']; exact g2⟩ nd' rg' (fun hq => absurd hR hq) (by omega) (Or.inl rfl) (oth _ _ (fun j j0 => wk 14 _ j (by omega) j0) (Or.inl rfl)) (Or.inl ⟨rfl, .l12 x a1 a2 rfl hiI (fun hh => hiQ (by simp [hh])) (by simp) a6 rfl⟩)⟩
    · have g2 := p2 hz
      have e := vis_l (v := V i) (i := i) (b := b) (t := t) (W := W) a1 a2 (by omega) (l' := { (V i).l with st := 13 }) (W' := W.set 14 (hdA R)) (w := false) (by
        unfold leaveP
        rw [if_neg (by omega), if_neg (by omega), if_neg (by omega), if_neg (by omega), if_neg (by omega), if_neg (by omega), if_pos a3, g.fst]
        simp only [a7, if_neg hz])
      refine ⟨_, _, _, I.erase i ++ [x], R, .pend x, e, h.ownMove h0 h1 hf (h.lk.setS (by omega) (by omega) _) (by show GQ _ _ _ _ _; rw [hlen']; exact g2) nd' rg' (fun hq => by rw [hlen']; exact h.full (by simp)) (by omega) (Or.inl rfl) (oth _ _ (fun j j0 => wk 14 _ j (by omega) j0) (Or.inr rfl)) (Or.inl ⟨rfl, .l13 x a1 a2 rfl hiI (fun hh => hiQ (by simp [hh])) (by simp) a6 rfl⟩)⟩
  | l12 x a1 a2 a3 a4 a5 a6 a7 a8 =>
    subst a8
    obtain ⟨hQ, g2⟩ := h.gw
    subst hQ
    have l15 : 15 < W.length := by omega
    have hx : W[15]? = some (W[15]'l15) := List.getElem?_eq_getElem l15
    have e := vis_l (v := V i) (i := i) (b := b) (t := t) (W := W) a1 a2 (by omega) (l' := { (V i).l with st := 13 }) (W' := W.set 15 0) (w := false) (by
      unfold leaveP
      rw [if_neg (by omega), if_neg (by omega), if_neg (by omega), if_neg (by omega), if_neg (by omega), if_neg (by omega), if_neg (by omega), if_pos a3, hx])
    refine ⟨_, _, _, I, [], .pend x, e, h.ownMove h0 h1 hf (h.lk.setS (by omega) (by omega) _) g2 h.nd h.rg h.full h.le (Or.inl rfl) ?_ (Or.inl ⟨rfl, .l13 x a1 a2 rfl a4 a5 a6 a7 rfl⟩)⟩
    intro j j0 j1 hj hh
    refine hh.tr Iff.rfl Iff.rfl (wk 15 _ j (by omega) j0) (fun hG => ?_)
    rcases hG with e | e
    · cases e; exact Or.inr rfl
    · cases e
  | l13 x a1 a2 a3 a4 a5 a6 a7 a8 =>
    subst a8
    have g : GQ b t W I.length Q := h.gw
    have rx := h.rg x (by simp [a6])
    obtain ⟨n1, n2⟩ := g.has rx.1 rx.2
    have hx : W[(b + (rfA x - 1) * 3 + 1).toNat]? = some (W[wtA b x]'n2) := by
      rw [show b + (rfA x - 1) * 3 + 1 = b + (x * 2 + 1) * 3 + 1 by unfold rfA; omega]; exact List.getElem?_eq_getElem n2
    have hset : W.set (b + (rfA x - 1) * 3 + 1).toNat 0 = W.set (wtA b x) 0 := by
      rw [show b + (rfA x - 1) * 3 + 1 = b + (x * 2 + 1) * 3 + 1 by unfold rfA; omega]; rfl
    have hxQ : x ∉ Q := nd_not h.nd a6
    have e := vis_l (v := V i) (i := i) (b := b) (t := t) (W := W) a1 a2 (by omega) (l' := { (V i).l with st := 14, ty := relT, pc := 1, ot := 0, en := false }) (W' := W.set (wtA b x) 0) (w := false) (by
      unfold leaveP
      rw [if_neg (by omega), if_neg (by omega), if_neg (by omega), if_neg (by omega), if_neg (by omega), if_neg (by omega), if_neg (by omega), if_neg (by omega), if_pos a3, if_pos (show 0 ≤ (V i).l.x ∧ (V i).l.x < t * 2 by rw [a7]; unfold rfA; omega)]
      simp only [a7, hx, hset])
    refine ⟨_, _, _, I, Q, .clean, e, h.ownMove (s := .r1) h0 h1 hf (h.lk.setA rx.1 (Or.inr rfl) _) (g.set rx.1 hxQ (Or.inr rfl) _) h.nd h.rg h.full h.le (Or.inr rfl) ?_ (Or.inr ⟨?_, rfl⟩)⟩
    · intro j j0 j1 hj hh
      by_cases hjx : j = x
      · subst hjx
        exact hh.tr2 Iff.rfl Iff.rfl (fun _ => Or.inr ⟨a6, Or.inl (List.getElem?_set_self n2)⟩)
      · refine hh.tr Iff.rfl Iff.rfl (List.getElem?_set_ne (by unfold wtA; omega)) (fun hG => ?_)
        rcases hG with e | e
        · cases e
        · cases e; exact absurd rfl hjx
    · exact .l14 (v := { V i with l := { (V i).l with st := 14, ty := relT, pc := 1, ot := 0, en := false } }) a1 a2 rfl rfl rfl (by show (1 : Int) ≤ 1 ∧ (1 : Int) ≤ 4; omega) a4 a5
end
end Den

/- GateRaces: progress, ranks, the crowd, the beginning and the end. -/
set_option maxRecDepth 100000
set_option maxHeartbeats 1000000
set_option linter.unusedSimpArgs false
set_option linter.unusedVariables false
namespace Den
open Go Go.Proofs

/-! How far a visit has come -/
def rkE (p : GP) : Nat :=
  if p.st = 1 then (25 - p.pc).toNat else if p.st = 2 then 19 else if p.st = 3 then 18 else if p.st = 4 then 12 else if p.st = 5 then 17 else if p.st = 6 then 16 else if p.st = 7 then 15 else if p.st = 8 then 14 else if p.st = 9 then 13
  else if p.st = 14 then (7 - p.pc).toNat else if p.st = 15 then 1 else 0
def rkF (p : GP) : Nat :=
  if p.st = 1 then (25 - p.pc).toNat else if p.st = 3 then 19 else if p.st = 2 then 18 else if p.st = 4 then 17 else if p.st = 10 then 18 else if p.st = 11 then 17 else if p.st = 12 then 16 else if p.st = 13 then 15
  else if p.st = 14 then (7 - p.pc).toNat else 0
def rkV (v : Vs) : Nat := rkE v.e + v.s.toNat + rkF v.l
theorem acqP_rk {b t lk nd pc ot pc' ot' : Int} {en w : Bool} {W W' : List Int} (h : acqP b t lk nd pc ot W = some (pc', ot', en, W', w)) : (1 ≤ pc ∧ pc ≤ 5) ∧ (w = true → pc' = pc ∧ ot' = ot ∧ en = false ∧ W' = W) ∧ (w = false → en = true ∨ (pc < pc' ∧ pc' ≤ 5)) := by
  unfold acqP at h
  split at h
  · obtain ⟨x, _, h⟩ := Option.map_eq_some_iff.1 h
    cases h; exact ⟨by omega, by simp, fun _ => by omega⟩
  split at h
  · obtain ⟨x, _, h⟩ := Option.map_eq_some_iff.1 h
    cases h; exact ⟨by omega, by simp, fun _ => by omega⟩
  split at h
  · obtain ⟨x, _, h⟩ := Option.map_eq_some_iff.1 h
    split at h
    · cases h; exact ⟨by omega, by simp, fun _ => by simp⟩
    · cases h; exact ⟨by omega, by simp, fun _ => by omega⟩
  split at h
  · split at h
    · obtain ⟨x, _, h⟩ := Option.map_eq_some_iff.1 h
      cases h; exact ⟨by omega, by simp, fun _ => by omega⟩
    · cases h
  split at h
  · obtain ⟨x, _, h⟩ := Option.map_eq_some_iff.1 h
    split at h
    · cases h; exact ⟨by omega, by simp, fun _ => by simp⟩
    · cases h; exact ⟨by omega, fun _ => ⟨by omega, rfl, rfl, rfl⟩, fun hh => by simp at hh⟩
  · cases h
theorem relP_rk {b t lk nd pc ot pc' ot' : Int} {en w : Bool} {W W' : List Int} (h : relP b t lk nd pc ot W = some (pc', ot', en, W', w)) : (1 ≤ pc ∧ pc ≤ 4) ∧ (w = true → pc' = pc ∧ ot' = ot ∧ en = false ∧ W' = W) ∧ (w = false → en = true ∨ (pc < pc' ∧ pc' ≤ 4)) := by
  unfold relP at h
  split at h
  · obtain ⟨x, _, h⟩ := Option.map_eq_some_iff.1 h
    split at h
    · cases h; exact ⟨by omega, by simp, fun _ => by omega⟩
    · cases h; exact ⟨by omega, by simp, fun _ => by omega⟩
  split at h
  · obtain ⟨x, _, h⟩ := Option.map_eq_some_iff.1 h
    split at h
    · cases h; exact ⟨by omega, fun _ => ⟨by omega, rfl, rfl, rfl⟩, fun hh => by simp at hh⟩
    · cases h; exact ⟨by omega, by simp, fun _ => by omega⟩
  split at h
  · obtain ⟨x, _, h⟩ := Option.map_eq_some_iff.1 h
    split at h
    · cases h; exact ⟨by omega, by simp, fun _ => by simp⟩
    · cases h; exact ⟨by omega, by simp, fun _ => by omega⟩
  split at h
  · split at h
    · obtain ⟨x, _, h⟩ := Option.map_eq_some_iff.1 h
      cases h; exact ⟨by omega, by simp, fun _ => by simp⟩
    · cases h
  · cases h
theorem gp_eq {p : GP} {s : Int} (h1 : p.st = s) (h2 : p.en = false) {c : Int} : ({ p with st := if false = true then c else s, pc := p.pc, ot := p.ot, en := false } : GP) = p := by
  cases p; simp at h1 h2 ⊢; exact ⟨h1.symm, h2⟩
theorem enterP_rk {b t th : Int} {p p' : GP} {W W' : List Int} {w : Bool} (h : enterP b t th p W = some (p', W', w)) : (w = true → p' = p ∧ W' = W) ∧ (w = false → rkE p' < rkE p) := by
  unfold enterP at h
  by_cases e : p.st = 1
  · rw [if_pos e] at h
    split at h
    · rename_i e2
      split at h
      · rename_i pc' ot' en' W1 w1 hq
        obtain ⟨r1, r2, r3⟩ := acqP_rk hq
        cases h
        constructor
        · intro hw
          obtain ⟨e3, e4, e5, e6⟩ := r2 hw
          rw [e3, e4, e5, e6]; exact ⟨gp_eq e e2.2, rfl⟩
        · intro hw
          rcases r3 hw with e3 | e3
          · rw [e3]; simp [rkE, e]; omega
          · cases en' <;> simp [rkE, e] <;> omega
      · cases h
    · cases h
  rw [if_neg e] at h; clear e
  by_cases e : p.st = 14
  · rw [if_pos e] at h
    split at h
    · rename_i e2
      split at h
      · rename_i pc' ot' en' W1 w1 hq
        obtain ⟨r1, r2, r3⟩ := relP_rk hq
        cases h
        constructor
        · intro hw
          obtain ⟨e3, e4, e5, e6⟩ := r2 hw
          rw [e3, e4, e5, e6]; exact ⟨gp_eq e e2.2, rfl⟩
        · intro hw
          rcases r3 hw with e3 | e3
          · rw [e3]; cases hmu : p.mu <;> simp [rkE, e, hmu] <;> omega
          · cases en' <;> cases hmu : p.mu <;> simp [rkE, e, hmu] <;> omega
      · cases h
    · cases h
  rw [if_neg e] at h; clear e
  by_cases e : p.st = 2
  · rw [if_pos e] at h
    split at h
    · cases h; simp [rkE, e]
    · cases h
  rw [if_neg e] at h; clear e
  by_cases e : p.st = 3
  · rw [if_pos e] at h
    split at h
    · split at h
      · split at h
        · cases h; simp [rkE, e]
        · cases h; simp [rkE, e]
      · cases h
    · cases h
  rw [if_neg e] at h; clear e
  by_cases e : p.st = 4
  · rw [if_pos e] at h
    split at h
    · split at h
      · cases h; simp [rkE, e]
      · cases h
    · cases h
  rw [if_neg e] at h; clear e
  by_cases e : p.st = 5
  · rw [if_pos e] at h
    split at h
    · cases h; simp [rkE, e]
    · cases h
  rw [if_neg e] at h; clear e
  by_cases e : p.st = 6
  · rw [if_pos e] at h
    split at h
    · cases h; simp [rkE, e]
    · cases h
  rw [if_neg e] at h; clear e
  by_cases e : p.st = 7
  · rw [if_pos e] at h
    split at h
    · cases h; simp [rkE, e]
    · cases h
  rw [if_neg e] at h; clear e
  by_cases e : p.st = 8
  · rw [if_pos e] at h
    split at h
    · split at h
      · split at h
        · cases h; simp [rkE, e]
        · cases h
      · cases h
    · split at h
      · cases h; simp [rkE, e]
      · cases h
  rw [if_neg e] at h; clear e
  by_cases e : p.st = 9
  · rw [if_pos e] at h
    split at h
    · cases h; simp [rkE, e]
    · cases h
  rw [if_neg e] at h; clear e
  by_cases e : p.st = 15
  · rw [if_pos e] at h
    split at h
    · split at h
      · cases h; simp
      · cases h; simp [rkE, e]
    · cases h
  · rw [if_neg e] at h; cases h
theorem leaveP_rk {b t th : Int} {p p' : GP} {W W' : List Int} {w : Bool} (h : leaveP b t th p W = some (p', W', w)) : (w = true → p' = p ∧ W' = W) ∧ (w = false → rkF p' < rkF p) := by
  unfold leaveP at h
  by_cases e : p.st = 1
  · rw [if_pos e] at h
    split at h
    · rename_i e2
      split at h
      · rename_i pc' ot' en' W1 w1 hq
        obtain ⟨r1, r2, r3⟩ := acqP_rk hq
        cases h
        constructor
        · intro hw
          obtain ⟨e3, e4, e5, e6⟩ := r2 hw
          rw [e3, e4, e5, e6]; exact ⟨gp_eq e e2.2, rfl⟩
        · intro hw
          rcases r3 hw with e3 | e3
          · rw [e3]; simp [rkF, e]; omega
          · cases en' <;> simp [rkF, e] <;> omega
      · cases h
    · cases h
  rw [if_neg e] at h; clear e
  by_cases e : p.st = 14
  · rw [if_pos e] at h
    split at h
    · rename_i e2
      split at h
      · rename_i pc' ot' en' W1 w1 hq
        obtain ⟨r1, r2, r3⟩ := relP_rk hq
        cases h
        constructor
        · intro hw
          obtain ⟨e3, e4, e5, e6⟩ := r2 hw
          rw [e3, e4, e5, e6]; exact ⟨gp_eq e e2.2, rfl⟩
        · intro hw
          rcases r3 hw with e3 | e3
          · rw [e3]; simp [rkF, e]; omega
          · cases en' <;> simp [rkF, e] <;> omega
      · cases h
    · cases h
  rw [if_neg e] at h; clear e
  by_cases e : p.st = 3
  · rw [if_pos e] at h
    split at h
    · split at h
      · cases h; simp [rkF, e]
      · split at h
        · cases h; simp [rkF, e]
        · cases h
    · cases h
  rw [if_neg e] at h; clear e
  by_cases e : p.st = 2
  · rw [if_pos e] at h
    split at h
    · cases h; simp [rkF, e]
    · cases h
  rw [if_neg e] at h; clear e
  by_cases e : p.st = 4
  · rw [if_pos e] at h
    split at h
    · split at h
      · cases h; simp [rkF, e]
      · cases h
    · cases h
  rw [if_neg e] at h; clear e
  by_cases e : p.st = 10
  · rw [if_pos e] at h
    split at h
    · split at h
      · cases h; simp [rkF, e]
      · cases h
    · cases h
  rw [if_neg e] at h; clear e
  by_cases e : p.st = 11
  · rw [if_pos e] at h
    split at h
    · split at h
      · cases h; simp [rkF, e]
      · cases h; simp [rkF, e]
    · cases h
  rw [if_neg e] at h; clear e
  by_cases e : p.st = 12
  · rw [if_pos e] at h
    split at h
    · cases h; simp [rkF, e]
    · cases h
  rw [if_neg e] at h; clear e
  by_cases e : p.st = 13
  · rw [if_pos e] at h
    split at h
    · split at h
      · cases h; simp [rkF, e]
      · cases h
    · cases h
  · rw [if_neg e] at h; cases h
def Vs.done (v : Vs) : Prop := v.l.st = 16
theorem visP_rk {b t i : Int} {v v' : Vs} {W W' : List Int} {w : Bool} (h : visP b t i v W = some (v', W', w)) : (w = true → v' = v ∧ W' = W) ∧ (w = false → rkV v' < rkV v ∨ (v' = v ∧ W' = W ∧ v.l.st = 16)) := by
  unfold visP at h
  split at h
  · split at h
    · cases h
      refine ⟨by simp, fun _ => Or.inl ?_⟩
      simp only [rkV]; omega
    · split at h
      · rename_i hl
        cases h; exact ⟨by simp, fun _ => Or.inr ⟨rfl, rfl, hl⟩⟩
      · split at h
        · rename_i l' W1 w1 hq
          obtain ⟨r1, r2⟩ := leaveP_rk hq
          cases h
          refine ⟨fun hw => ?_, fun hw => Or.inl ?_⟩
          · obtain ⟨e1, e2⟩ := r1 hw
            rw [e1, e2]; exact ⟨rfl, rfl⟩
          · have := r2 hw
            simp only [rkV]; omega
        · cases h
  · split at h
    · rename_i e' W1 w1 hq
      obtain ⟨r1, r2⟩ := enterP_rk hq
      cases h
      refine ⟨fun hw => ?_, fun hw => Or.inl ?_⟩
      · obtain ⟨e1, e2⟩ := r1 hw
        rw [e1, e2]; exact ⟨rfl, rfl⟩
      · have := r2 hw
        simp only [rkV]; omega
    · cases h
end Den

/- GateRaces: the invariant without its inner parts. -/
set_option maxRecDepth 100000
set_option maxHeartbeats 1000000
set_option linter.unusedSimpArgs false
set_option linter.unusedVariables false
namespace Den
open Go Go.Proofs

def RR (b t mo : Int) (W : List Int) (V : Int → Vs) : Prop := ∃ q f I Q G, RI b t mo W q f I Q G V
section
variable {b t mo : Int} {W : List Int} {q I Q : List Int} {f : Int → LS} {G : Gp} {i : Int} {V : Int → Vs}
theorem ri_step (ht : 0 ≤ t) (h : RI b t mo W q f I Q G V) (h0 : 0 ≤ i) (h1 : i < t) : ∃ v' W' w, visP b t i (V i) W = some (v', W', w) ∧ RR b t mo W' (upV V i v') ∧ (w = true → Stk b W i (V i) (f i)) := by
  rcases h.th i h0 h1 with hT | ⟨hf, hT⟩
  · obtain ⟨v', W', w, q', f', e, g, hw⟩ := ri_stepN h h0 h1 hT
    exact ⟨v', W', w, e, ⟨q', f', I, Q, G, g⟩, hw⟩
  · obtain ⟨v', W', f', I', Q', G', e, g⟩ := ri_stepO ht h h0 h1 hf hT
    exact ⟨v', W', false, e, ⟨q, f', I', Q', G', g⟩, by simp⟩
theorem rr_step (ht : 0 ≤ t) (h : RR b t mo W V) (h0 : 0 ≤ i) (h1 : i < t) : ∃ v' W' w, visP b t i (V i) W = some (v', W', w) ∧ RR b t mo W' (upV V i v') := by
  obtain ⟨q, f, I, Q, G, h⟩ := h
  obtain ⟨v', W', w, e, g, _⟩ := ri_step ht h h0 h1
  exact ⟨v', W', w, e, g⟩
theorem RI.own_of (h : RI b t mo W q f I Q G V) (h0 : 0 ≤ i) (h1 : i < t) (hl : (V i).l.st = 16) : f i = .out ∧ i ∉ I ∧ i ∉ Q := by
  have no : (V i).l = gp0 0 → False := fun e => by rw [e] at hl; simp [gp0] at hl
  rcases h.th i h0 h1 with hT | ⟨_, hT⟩
  · generalize f i = s at hT
    cases hT with
    | e1 a1 a2 a3 a4 a5 a6 a7 => exact (no a7).elim
    | e14 a1 a2 a3 a4 a5 => exact (no a5).elim
    | e15 a1 a2 => exact (no a2).elim
    | l1 a1 a2 => omega
    | l14 a1 a2 a3 => omega
    | l16 a1 a2 a3 a4 a5 => exact ⟨rfl, a4, a5⟩
  · cases hT with
    | e2 a1 => exact (no a1.l).elim
    | e3 a1 => exact (no a1.l).elim
    | e4 a1 => exact (no a1.l).elim
    | e5 a1 => exact (no a1.l).elim
    | e6 a1 => exact (no a1.l).elim
    | e7 a1 => exact (no a1.l).elim
    | e8 a1 => exact (no a1.l).elim
    | e9 a1 => exact (no a1.l).elim
    | l3 a1 a2 a3 => omega
    | l2 a1 a2 a3 => omega
    | l4 a1 a2 a3 => omega
    | l10 x R a1 a2 a3 => omega
    | l11 x R a1 a2 a3 => omega
    | l12 x a1 a2 a3 => omega
    | l13 x a1 a2 a3 => omega
/-- Somebody can go on. -/
theorem rr_live (ht : 0 ≤ t) (h : RR b t mo W V) (hn : ∃ i, 0 ≤ i ∧ i < t ∧ (V i).l.st ≠ 16) : ∃ i, 0 ≤ i ∧ i < t ∧ (V i).l.st ≠ 16 ∧ ∀ v' W' w, visP b t i (V i) W = some (v', W', w) → w = false := by
  obtain ⟨q, f, I, Q, G, h⟩ := h
  have key : ∃ i, 0 ≤ i ∧ i < t ∧ (V i).l.st ≠ 16 ∧ ¬ Stk b W i (V i) (f i) := by
    by_cases hq : q = []
    · subst hq
      have hout : ∀ j, 0 ≤ j → j < t → f j = .out ∨ f j = .a1 ∨ f j = .a2 ∨ f j = .a3 := fun j j0 j1 => by
        have := h.lk.ou j j0 j1 (by simp)
        cases hs : f j <;> rw [hs] at this <;> simp [ouOK] at this ⊢
      have hcl : G = .clean := h.cl fun j j0 j1 hj => by
        rcases hout j j0 j1 with e | e | e | e <;> rw [e] at hj <;> cases hj
      subst hcl
      obtain ⟨i, i0, i1, hi⟩ := hn
      -- who waits at the gate, or can go on
      have c15 : ∀ j, 0 ≤ j → j < t → (V j).l.st ≠ 16 → Stk b W j (V j) (f j) → j ∈ Q := fun j j0 j1 hj hst => by
        rcases hst with ⟨e, _⟩ | ⟨e, _⟩ | ⟨e, e2⟩
        · rcases hout j j0 j1 with e3 | e3 | e3 | e3 <;> rw [e3] at e <;> cases e
        · rcases hout j j0 j1 with e3 | e3 | e3 | e3 <;> rw [e3] at e <;> cases e
        · rcases h.th j j0 j1 with hT | ⟨hf, _⟩
          · generalize f j = s at hT
            cases hT with
            | e1 a1 => omega
            | e14 a1 => omega
            | e15 a1 a2 a3 a4 =>
              rcases a4 with h | ⟨_, h | ⟨_, h⟩⟩
              · exact h
              · rw [e2] at h; simp at h
              · simp at h
            | l1 a1 => omega
            | l14 a1 => omega
            | l16 a1 => omega
          · rcases hout j j0 j1 with e3 | e3 | e3 | e3 <;> rw [e3] at hf <;> cases hf
      by_cases hst : Stk b W i (V i) (f i)
      · have hiQ := c15 i i0 i1 hi hst
        have hQ : Q ≠ [] := fun e => by rw [e] at hiQ; simp at hiQ
        have hfull := h.full hQ
        have hm := h.m0
        cases hI : I with
        | nil => rw [hI] at hfull; simp at hfull; omega
        | cons j l =>
          have hjI : j ∈ I := by rw [hI]; simp
          have rj := h.rg j (by simp [hjI])
          have hjl : (V j).l.st ≠ 16 := fun e => (h.own_of rj.1 rj.2 e).2.1 hjI
          exact ⟨j, rj.1, rj.2, hjl, fun hs => nd_not h.nd hjI (c15 j rj.1 rj.2 hjl hs)⟩
      · exact ⟨i, i0, i1, hi, hst⟩
    · obtain ⟨i, i0, i1, e1, e2, e3⟩ := h.lk.live hq
      refine ⟨i, i0, i1, fun e => e1 (h.own_of i0 i1 e).1, ?_⟩
      rintro (hs | hs | ⟨hs, hs2⟩)
      · exact e2 hs
      · exact e3 hs
      · rcases h.th i i0 i1 with hT | ⟨hf, hT⟩
        · generalize f i = s at hT e1
          cases hT with
          | e1 a1 => omega
          | e14 a1 => omega
          | e15 a1 a2 a3 a4 => exact e1 rfl
          | l1 a1 => omega
          | l14 a1 => omega
          | l16 a1 => omega
        · cases hT with
          | e2 a1 a2 => omega
          | e3 a1 a2 => omega
          | e4 a1 a2 => omega
          | e5 a1 a2 => omega
          | e6 a1 a2 => omega
          | e7 a1 a2 => omega
          | e8 a1 a2 => omega
          | e9 a1 a2 => omega
          | l3 a1 => omega
          | l2 a1 => omega
          | l4 a1 => omega
          | l10 x R a1 => omega
          | l11 x R a1 => omega
          | l12 x a1 => omega
          | l13 x a1 => omega
  obtain ⟨i, i0, i1, hi, hs⟩ := key
  refine ⟨i, i0, i1, hi, fun v' W' w e => ?_⟩
  obtain ⟨v2, W2, w2, e2, _, hw⟩ := ri_step ht h i0 i1
  rw [e] at e2; cases e2
  cases w with
  | false => rfl
  | true => exact absurd (hw rfl) hs
/-- The crowd. -/
def cntV (V : Int → Vs) : Nat → Nat
  | 0 => 0
  | n + 1 => cntV V n + if (V n).e.st = 16 ∧ 0 < (V n).s then 1 else 0
theorem nd_sub : ∀ (l m : List Int), l.Nodup → (∀ x ∈ l, x ∈ m) → l.length ≤ m.length
  | [], m, _, _ => by simp
  | x :: l, m, hd, hs => by
    have hx := hs x (by simp)
    have hd' := List.nodup_cons.1 hd
    have := nd_sub l (m.erase x) hd'.2 (fun y hy => by
      have hne : y ≠ x := fun e => hd'.1 (e ▸ hy)
      exact (List.mem_erase_of_ne hne).2 (hs y (by simp [hy])))
    rw [List.length_erase_of_mem hx] at this
    have hp := List.length_pos_of_mem hx
    simp; omega
theorem rr_crowd (h : RR b t mo W V) (n : Nat) (hn : (n : Int) ≤ t) : (cntV V n : Int) ≤ mo := by
  obtain ⟨q, f, I, Q, G, h⟩ := h
  have key : ∀ n : Nat, (n : Int) ≤ t → ∃ L : List Int, L.Nodup ∧ L.length = cntV V n ∧ ∀ x ∈ L, x ∈ I ∧ x < n := by
    intro n
    induction n with
    | zero => intro _; exact ⟨[], List.nodup_nil, rfl, fun x hx => by simp at hx⟩
    | succ n ih =>
      intro hn
      obtain ⟨L, l1, l2, l3⟩ := ih (by omega)
      by_cases hc : (V n).e.st = 16 ∧ 0 < (V n).s
      · have hI : (n : Int) ∈ I := by
          rcases h.th n (by omega) (by omega) with hT | ⟨_, hT⟩
          · generalize f n = s at hT
            cases hT with
            | e1 a1 => omega
            | e14 a1 => omega
            | e15 a1 => omega
            | l1 a1 a2 a3 a4 a5 a6 a7 => exact a7
            | l14 a1 a2 => omega
            | l16 a1 a2 => omega
          · cases hT with
            | e2 a1 a2 => omega
            | e3 a1 a2 => omega
            | e4 a1 a2 => omega
            | e5 a1 a2 => omega
            | e6 a1 a2 => omega
            | e7 a1 a2 => omega
            | e8 a1 a2 => omega
            | e9 a1 a2 => omega
            | l3 a1 a2 => omega
            | l2 a1 a2 => omega
            | l4 a1 a2 => omega
            | l10 x R a1 a2 => omega
            | l11 x R a1 a2 => omega
            | l12 x a1 a2 => omega
            | l13 x a1 a2 => omega
        refine ⟨(n : Int) :: L, List.nodup_cons.2 ⟨fun hm => by have := (l3 _ hm).2; omega, l1⟩, by simp [cntV, hc, l2], fun x hx => ?_⟩
        simp only [List.mem_cons] at hx
        rcases hx with rfl | hx
        · exact ⟨hI, by omega⟩
        · exact ⟨(l3 x hx).1, by have := (l3 x hx).2; omega⟩
      · exact ⟨L, l1, by simp [cntV, hc, l2], fun x hx => ⟨(l3 x hx).1, by have := (l3 x hx).2; omega⟩⟩
  obtain ⟨L, l1, l2, l3⟩ := key n hn
  have := nd_sub L I l1 (fun x hx => (l3 x hx).1)
  have := h.le
  omega
/-- The end. -/
theorem rr_end (h : RR b t mo W V) (hd : ∀ i, 0 ≤ i → i < t → (V i).l.st = 16) : GI b t W 0 [] := by
  obtain ⟨q, f, I, Q, G, h⟩ := h
  have hI : I = [] := List.eq_nil_iff_forall_not_mem.2 fun x hx => by
    have r := h.rg x (by simp [hx])
    exact (h.own_of r.1 r.2 (hd x r.1 r.2)).2.1 hx
  have hQ : Q = [] := List.eq_nil_iff_forall_not_mem.2 fun x hx => by
    have r := h.rg x (by simp [hx])
    exact (h.own_of r.1 r.2 (hd x r.1 r.2)).2.2 hx
  have hq : q = [] := List.eq_nil_iff_forall_not_mem.2 fun x hx => by
    have r := h.lk.rng x hx
    have e := (h.own_of r.1 r.2 (hd x r.1 r.2)).1
    exact (h.lk.isOut r.1 r.2 (Or.inl e)).1 hx
  have hG : G = .clean := h.cl fun i i0 i1 hi => by rw [(h.own_of i0 i1 (hd i i0 i1)).1] at hi; cases hi
  subst hI hQ hq hG
  have g : GQ b t W 0 [] := h.gw
  exact ⟨⟨g.b3, g.len, h.lk.tl⟩, g.ins, g.fst, g.lst, trivial, fun x hx => by simp at hx, List.nodup_nil, fun x hx => by simp at hx⟩
/-- The beginning. -/
theorem rr_init (ht : 0 ≤ t) (h : GI b t W 0 []) (hm : 1 ≤ mo ∧ mo ≤ 64) (hv : ∀ i, 0 ≤ i → i < t → (V i).e = gp0 mo ∧ (V i).l = gp0 0 ∧ 0 ≤ (V i).s) : RR b t mo W V := by
  refine ⟨[], fun _ => .a1, [], [], .clean, ?_⟩
  exact { lk := ⟨h.wd.b3, by omega, by omega, h.wd.len, List.nodup_nil, fun i hi => by simp at hi, h.wd.free, fun _ _ _ _ => trivial, fun _ _ e => by simp at e, trivial⟩
          th := fun i i0 i1 => by
            obtain ⟨a1, a2, a3⟩ := hv i i0 i1
            have := TN.e1 (b := b) (mo := mo) (W := W) (I := []) (Q := []) (G := .clean) (i := i) (v := V i) (by rw [a1]; rfl) (by rw [a1]; rfl) (by rw [a1]; rfl) (by rw [a1]; rfl) (by rw [a1]; rfl) (by rw [a1]; simp [gp0]) a2 a3 (by simp) (by simp)
            rw [show acqL (V i).e.pc (V i).e.ot = .a1 by rw [a1]; rfl] at this
            exact Or.inl this
          gw := ⟨h.wd.b3, h.wd.len, h.ins, h.fst, h.lst, trivial, fun x hx => by simp at hx, List.nodup_nil, fun x hx => by simp at hx⟩
          cl := fun _ => rfl
          nd := List.nodup_nil
          rg := fun x hx => by simp at hx
          full := fun hq => absurd rfl hq
          le := by simp; omega
          m0 := hm }
end
end Den

/- GateRaces: the visits' steps and the crowd. -/
set_option maxRecDepth 100000
set_option maxHeartbeats 4000000
set_option linter.unusedSimpArgs false
set_option linter.unusedVariables false
namespace Den
open Go Go.Proofs

/-- ticketlinelaw31.visit.step -/
def vstepS : Sp := fun args O =>
  match args with
  | [.ref 0 kv 0, .ref 0 km 0] =>
    match O[kv]? with
    | some (.arr [.ref 0 ke 0, c1, c2]) =>
      match enterDoneS [.ref 0 ke 0] O with
      | some (.bool false, Oa) =>
        match Oa[kv]? with
        | some (.arr [.ref 0 ke2 0, c3, c4]) =>
          match step31S [.iface 42 (.ref 0 ke2 0), .ref 0 km 0] Oa with
          | some (.tup [.bool w, .bool d], Ob) => some (.tup [.bool w, .bool d], Ob)
          | _ => none
        | _ => none
      | some (.bool true, Oa) =>
        match Oa[kv]? with
        | some (.arr [c5, .ref 0 kl 0, .int .i64 s]) =>
          if 0 < s then
            if s ≤ 1000 then some (.tup [.bool false, .bool false], Oa.set kv (.arr [c5, .ref 0 kl 0, .int .i64 (s - 1)]))
            else none
          else
            match leaveDoneS [.ref 0 kl 0] Oa with
            | some (.bool true, Ob) => some (.tup [.bool false, .bool false], Ob)
            | some (.bool false, Ob) =>
              match Ob[kv]? with
              | some (.arr [c6, .ref 0 kl2 0, c7]) =>
                match step31S [.iface 35 (.ref 0 kl2 0), .ref 0 km 0] Ob with
                | some (.tup [.bool w, .bool d], Oc) => some (.tup [.bool w, .bool d], Oc)
                | _ => none
              | _ => none
            | _ => none
        | _ => none
      | _ => none
    | _ => none
  | _ => none
theorem vstepS_ok : SpOk Tryz.prog 24 vstepS := by
  intro args O r O' h S
  unfold vstepS at h
  repeat' (split at h)
  all_goals first | (cases h; done) | skip
  all_goals
    simp only [Option.some.injEq, Prod.mk.injEq] at h
    obtain ⟨rfl, rfl⟩ := h
    refine bodyA (tabC_cons enterDoneS_ok (tabC_cons leaveDoneS_ok (tabC_cons step31S_ok (tabC_nil _)))) (n := 0) F24_code ?_
    try simp only [acc, accZ, errA] at *
    simp (disch := first | decide | omega | assumption | exact isS_of (by assumption) | exact ixok_of (by assumption) (by omega) | exact slOk_of (by assumption) | exact bufOk_of (by assumption) (by omega) | exact ixok_ofR (by assumption) (by omega) | exact slOk_ofR (by assumption) | exact lenOk_of (by assumption) (by omega) | exact ixok_of8 (by assumption) (by omega) | fail) only [F24, RAs, RBs, RCs, RDs, REs, RFs, RGs, RHs, RIs, RJs, RKs, RLs, RRt, Nat.reduceLT, Nat.reduceEqDiff, Nat.reduceAdd, Nat.reduceSub, RXa, RXb, RXc, methR, methE, methM, RSl, RSr, RSm, acc, accZ, errA, *]

/-- ticketlinelaw31.crowd: the loop 0 -/
def crowdG (v : AV) : Nat → Int → Int → Mo → Option (AV × Mo)
  | 0, cn, i, O => none
  | m + 1, cn, i, O =>
    match rdR O v with
    | some l =>
      if l.length ≤ 1000 then
        if i < (l.length : Int) then
          if 0 ≤ i then
            if 0 ≤ cn ∧ cn ≤ 1000 then
              match l[i.toNat]? with
              | some kv =>
                match O[kv]? with
                | some (.arr [.ref 0 ke 0, c1, c2]) =>
                  match enterDoneS [.ref 0 ke 0] O with
                  | some (.bool false, Oa) => crowdG v m cn (i + 1) Oa
                  | some (.bool true, Oa) =>
                    match rdR Oa v with
                    | some l2 =>
                      if i < (l2.length : Int) then
                        match l2[i.toNat]? with
                        | some kv2 =>
                          match Oa[kv2]? with
                          | some (.arr [c3, c4, .int .i64 s]) => if 0 < s then crowdG v m (cn + 1) (i + 1) Oa else crowdG v m cn (i + 1) Oa
                          | _ => none
                        | _ => none
                      else none
                    | _ => none
                  | _ => none
                | _ => none
              | _ => none
            else none
          else none
        else some (.int .i64 cn, O)
      else none
    | _ => none
theorem crowdG_loop {S : Ms} (v : AV)  : ∀ (n : Nat) (cn i : Int) (O : Mo) (env : Env) (M : Nat) (r : AV) (O' : Mo) (h : crowdG v n cn i O = some (r, O')) (hM : n < M) (e0 : env 0 = v) (e1 : env 3 = .int .i64 cn) (e2 : env 4 = .int .i64 i),
    W25x0 cfgA (tabC [(29, enterDoneS)]) 100000 (loopN (exec cfgA (tabC [(29, enterDoneS)]) 100000 B25x0) [] M ⟨leOf 32 env, O, S ++ [[]]⟩) = some (r, O', S) := by
  intro n
  induction n with
  | zero =>
    intro cn i O env M r O' h hM e0 e1 e2
    unfold crowdG at h
    first | (cases h; done) | (dsimp only at h; cases h; done) | (split at h <;> first | (cases h; done) | (exfalso; omega))
  | succ n ih =>
    intro cn i O env M r O' h hM e0 e1 e2
    obtain ⟨M, rfl⟩ : ∃ M', M = M' + 1 := ⟨M - 1, by omega⟩
    unfold crowdG at h
    repeat' (split at h)
    all_goals first | (cases h; done) | (dsimp only at h; cases h; done) | (exfalso; omega) | skip
    all_goals
      try dsimp only at h
      try simp only [acc, accZ, errA] at *
      first
        | (simp (disch := first | decide | omega | assumption | exact isS_of (by assumption) | exact ixok_of (by assumption) (by omega) | exact slOk_of (by assumption) | exact bufOk_of (by assumption) (by omega) | exact ixok_ofR (by assumption) (by omega) | exact slOk_ofR (by assumption) | exact lenOk_of (by assumption) (by omega) | exact ixok_of8 (by assumption) (by omega) | fail) only [loop_unf, loopK_N, loopK_E, loopK_R, RAs, RBs, RCs, RDs, REs, RFs, RGs, RHs, RIs, RJs, RKs, RLs, RRt, Nat.reduceLT, Nat.reduceEqDiff, Nat.reduceAdd, Nat.reduceSub, RXa, RXb, RXc, methR, methE, methM, RSl, RSr, RSm, *]
           refine ih _ _ _ _ _ _ _ h (by omega) ?_ ?_ ?_
           all_goals simp (disch := first | decide | omega | assumption | exact isS_of (by assumption) | exact ixok_of (by assumption) (by omega) | exact slOk_of (by assumption) | exact bufOk_of (by assumption) (by omega) | exact ixok_ofR (by assumption) (by omega) | exact slOk_ofR (by assumption) | exact lenOk_of (by assumption) (by omega) | exact ixok_of8 (by assumption) (by omega) | fail) only [RAs, RBs, RCs, RDs, REs, RFs, RGs, RHs, RIs, RJs, RKs, RLs, RRt, Nat.reduceLT, Nat.reduceEqDiff, Nat.reduceAdd, Nat.reduceSub, RXa, RXb, RXc, methR, methE, methM, RSl, RSr, RSm, *])
        | (simp only [Option.some.injEq, Prod.mk.injEq] at h
           obtain ⟨rfl, rfl⟩ := h
           simp (disch := first | decide | omega | assumption | exact isS_of (by assumption) | exact ixok_of (by assumption) (by omega) | exact slOk_of (by assumption) | exact bufOk_of (by assumption) (by omega) | exact ixok_ofR (by assumption) (by omega) | exact slOk_ofR (by assumption) | exact lenOk_of (by assumption) (by omega) | exact ixok_of8 (by assumption) (by omega) | fail) only [W25x0, loop_unf, loopK_N, loopK_E, loopK_R, RAs, RBs, RCs, RDs, REs, RFs, RGs, RHs, RIs, RJs, RKs, RLs, RRt, Nat.reduceLT, Nat.reduceEqDiff, Nat.reduceAdd, Nat.reduceSub, RXa, RXb, RXc, methR, methE, methM, RSl, RSr, RSm, *])

/-- ticketlinelaw31.crowd -/
def crowdS : Sp := fun args O =>
  match args with
  | [v] => crowdG v 1002 0 0 O
  | _ => none
theorem crowdS_ok : SpOk Tryz.prog 25 crowdS := by
  intro args O r O' h S
  unfold crowdS at h
  repeat' (split at h)
  all_goals first | (cases h; done) | skip
  all_goals
    try simp only [acc, accZ, errA] at *
    first
      | (simp only [Option.some.injEq, Prod.mk.injEq] at h
         obtain ⟨rfl, rfl⟩ := h
         refine bodyA (tabC_cons enterDoneS_ok (tabC_nil _)) (n := 100000) F25_code ?_
         simp (disch := first | decide | omega | assumption | exact isS_of (by assumption) | exact ixok_of (by assumption) (by omega) | exact slOk_of (by assumption) | exact bufOk_of (by assumption) (by omega) | exact ixok_ofR (by assumption) (by omega) | exact slOk_ofR (by assumption) | exact lenOk_of (by assumption) (by omega) | exact ixok_of8 (by assumption) (by omega) | fail) only [F25, RAs, RBs, RCs, RDs, REs, RFs, RGs, RHs, RIs, RJs, RKs, RLs, RRt, Nat.reduceLT, Nat.reduceEqDiff, Nat.reduceAdd, Nat.reduceSub, RXa, RXb, RXc, methR, methE, methM, RSl, RSr, RSm, acc, accZ, errA, *])
      | (refine bodyA (tabC_cons enterDoneS_ok (tabC_nil _)) (n := 100000) F25_code ?_
         simp (disch := first | decide | omega | assumption | exact isS_of (by assumption) | exact ixok_of (by assumption) (by omega) | exact slOk_of (by assumption) | exact bufOk_of (by assumption) (by omega) | exact ixok_ofR (by assumption) (by omega) | exact slOk_ofR (by assumption) | exact lenOk_of (by assumption) (by omega) | exact ixok_of8 (by assumption) (by omega) | fail) only [F25, RAs, RBs, RCs, RDs, REs, RFs, RGs, RHs, RIs, RJs, RKs, RLs, RRt, Nat.reduceLT, Nat.reduceEqDiff, Nat.reduceAdd, Nat.reduceSub, RXa, RXb, RXc, methR, methE, methM, RSl, RSr, RSm, e_loop, acc, accZ, errA, *]
         refine (fin_skip _ _ _ _ _).trans ?_
         refine crowdG_loop _ _ _ _ _ _ _ _ _ h (by omega) ?_ ?_ ?_
         all_goals simp (disch := first | decide | omega | assumption | exact isS_of (by assumption) | exact ixok_of (by assumption) (by omega) | exact slOk_of (by assumption) | exact bufOk_of (by assumption) (by omega) | exact ixok_ofR (by assumption) (by omega) | exact slOk_ofR (by assumption) | exact lenOk_of (by assumption) (by omega) | exact ixok_of8 (by assumption) (by omega) | fail) only [RAs, RBs, RCs, RDs, REs, RFs, RGs, RHs, RIs, RJs, RKs, RLs, RRt, Nat.reduceLT, Nat.reduceEqDiff, Nat.reduceAdd, Nat.reduceSub, RXa, RXb, RXc, methR, methE, methM, RSl, RSr, RSm, *])

end Den

/- GateRaces: what it computes. -/
set_option maxRecDepth 100000
set_option maxHeartbeats 4000000
set_option linter.unusedSimpArgs false
set_option linter.unusedVariables false
namespace Den
open Go Go.Proofs

theorem ar_ld (cs : List AV) (i : Int) : aldC (some (.arr cs)) 1 false i.toNat = cs[i.toNat]? := by
  simp [aldC, takeV]
theorem ar_ix {k n i : Nat} (h : i < n) : ixaC (some n) 1 (.ref 0 k 0) (some i) = some (.ref 0 k i) := by simp [ixaC, h, fldA]
/-- ticketlinelaw31.GateRaces: the loop 2 -/
def raAll (kl km : Nat) (mo : Int) (pv av : AV) (rd : Int) (K : Int → Mo → Option (AV × Mo)) : Nat → Bool → Bool → Int → Mo → Option (AV × Mo)
  | 0, op, mv, k, O => none
  | m + 1, op, mv, k, O =>
    match rdR O av with
    | some l =>
      if l.length ≤ 1000 then
        if k < (l.length : Int) then
          if 0 ≤ k then
            match l[k.toNat]? with
            | some kv =>
              match O[kv]? with
              | some (.arr [c0, .ref 0 kx 0, c2]) =>
                match leaveDoneS [.ref 0 kx 0] O with
                | some (.bool true, Oa) => raAll kl km mo pv av rd K m op mv (k + 1) Oa
                | some (.bool false, Oa) =>
                  match rdR Oa av with
                  | some l2 =>
                    if k < (l2.length : Int) then
                      match l2[k.toNat]? with
                      | some kv2 =>
                        match vstepS [.ref 0 kv2 0, .ref 0 km 0] Oa with
                        | some (.tup [.bool w, .bool false], Ob) =>
                          match crowdS [av] Ob with
                          | some (.int .i64 cc, Oc) =>
                            if mo < cc then none
                            else
                              match mv with
                              | true => raAll kl km mo pv av rd K m true true (k + 1) Oc
                              | false => raAll kl km mo pv av rd K m true (!w) (k + 1) Oc
                          | _ => none
                        | _ => none
                      | _ => none
                    else none
                  | _ => none
                | _ => none
              | _ => none
            | _ => none
          else none
        else
          match op with
          | true =>
            match mv with
            | true => K (rd + 1) O
            | false => none
          | false =>
            match O[kl]? with
            | some (.arr [.int .i64 p, .int .i64 t]) =>
              match looksS [.agg [.int .i64 p, .int .i64 t], .ref 0 km 0, .int .i64 0, .nils] O with
              | some (.bool true, Oa) =>
                match known31S [] Oa with
                | some (.bool d, Ob) => some (.bool d, Ob)
                | _ => none
              | _ => none
            | _ => none
      else none
    | _ => none
theorem raAll_loop {S : Ms} (kl km : Nat) (mo : Int) (pv av : AV) (rd : Int) (K :  Int → Mo → Option (AV × Mo)) (h0 : 0 ≤ rd) (h1 : rd ≤ 3000) (hm0 : 0 ≤ mo) (hm1 : mo ≤ 255) (Mx : Nat) (hK : ∀ (rd : Int) (O : Mo) (env : Env) (r : AV) (O' : Mo), K rd O = some (r, O') → env 1 = .int .u8 mo → env 3 = pv → env 9 = .ref 0 kl 0 → env 10 = .ref 0 km 0 → env 12 = av → env 15 = .int .i64 rd → W4x3 cfgA (tabC [(13, known31S), (14, formatS), (20, enter31S), (16, leave31S), (24, vstepS), (25, crowdS), (26, leaveDoneS), (23, looksS)]) 100000 (loopN (exec cfgA (tabC [(13, known31S), (14, formatS), (20, enter31S), (16, leave31S), (24, vstepS), (25, crowdS), (26, leaveDoneS), (23, looksS)]) 100000 B4x3) [] Mx ⟨leOf 173 env, O, S ++ [[]]⟩) = some (r, O', S)) : ∀ (n : Nat) (op mv : Bool) (k : Int) (O : Mo) (env : Env) (M : Nat) (r : AV) (O' : Mo) (h : raAll kl km mo pv av rd K n op mv k O = some (r, O')) (hM : n < M) (e0 : env 1 = .int .u8 mo) (e1 : env 3 = pv) (e2 : env 9 = .ref 0 kl 0) (e3 : env 10 = .ref 0 km 0) (e4 : env 12 = av) (e5 : env 15 = .int .i64 rd) (e6 : env 19 = .bool op) (e7 : env 20 = .bool mv) (e8 : env 21 = .int .i64 k),
    W4x3 cfgA (tabC [(13, known31S), (14, formatS), (20, enter31S), (16, leave31S), (24, vstepS), (25, crowdS), (26, leaveDoneS), (23, looksS)]) 100000 (loopK (exec cfgA (tabC [(13, known31S), (14, formatS), (20, enter31S), (16, leave31S), (24, vstepS), (25, crowdS), (26, leaveDoneS), (23, looksS)]) 100000 B4x3) Mx (seqC (cfg := cfgA) (call := tabC [(13, known31S), (14, formatS), (20, enter31S), (16, leave31S), (24, vstepS), (25, crowdS), (26, leaveDoneS), (23, looksS)]) 100000 (blockC 3 (seqC (cfg := cfgA) (call := tabC [(13, known31S), (14, formatS), (20, enter31S), (16, leave31S), (24, vstepS), (25, crowdS), (26, leaveDoneS), (23, looksS)]) 100000 (blockC 6 (loopN (exec cfgA (tabC [(13, known31S), (14, formatS), (20, enter31S), (16, leave31S), (24, vstepS), (25, crowdS), (26, leaveDoneS), (23, looksS)]) 100000 B4x2) [] M ⟨leOf 173 env, O, S ++ [[]]⟩)) (.seq
 (.seq
 (.ops 35 [⟨some 163, none, .mv (.t 19), []⟩,
 ⟨some 164, none, .un .not (.t 163), []⟩])
 (.cond (.t 164)
 (.seq
 (.ops 36 [⟨some 165, none, .ld 2 true (.t 9), []⟩,
 ⟨some 166, none, .mv (.t 10), []⟩,
 ⟨some 167, none, .call 23 [.t 165, .t 166, .c (.int .i64 0), .c (.nils)], []⟩,
 ⟨some 168, none, .mv (.t 167), []⟩,
 ⟨some 169, some (168, true), .call 13 [], []⟩,
 ⟨some 170, none, .pick (.t 168) (.t 169) (.c (.bool false)), []⟩,
 ⟨some 8, none, .mv (.t 170), []⟩])
 .ret)
 .skip))
 (.seq
 (.ops 37 [⟨some 171, none, .mv (.t 20), []⟩,
 ⟨some 172, none, .un .not (.t 171), []⟩])
 (.cond (.t 172)
 (.seq
 (.ops 38 [⟨some 8, none, .mv (.c (.bool false)), []⟩])
 .ret)
 .skip))))) (.ops 17 [⟨some 97, none, .mv (.t 15), []⟩,
 ⟨some 98, none, .bin .add (.t 97) (.c (.int .i64 1)), []⟩,
 ⟨some 15, none, .mv (.t 98), []⟩]))) = some (r, O', S) := by
  intro n
  induction n with
  | zero =>
    intro op mv k O env M r O' h hM e0 e1 e2 e3 e4 e5 e6 e7 e8
    unfold raAll at h
    first | (cases h; done) | (dsimp only at h; cases h; done) | (split at h <;> first | (cases h; done) | (exfalso; omega))
  | succ n ih =>
    intro op mv k O env M r O' h hM e0 e1 e2 e3 e4 e5 e6 e7 e8
    obtain ⟨M, rfl⟩ : ∃ M', M = M' + 1 := ⟨M - 1, by omega⟩
    unfold raAll at h
    repeat' (split at h)
    all_goals first | (cases h; done) | (dsimp only at h; cases h; done) | (exfalso; omega) | skip
    all_goals
      try dsimp only at h
      try simp only [acc, accZ, errA] at *
      first
        | (have hg_ : raAll kl km mo pv av rd K n _ _ _ _ = _ := h
           clear hg_
           simp (disch := first | decide | omega | assumption | exact isS_of (by assumption) | exact ixok_of (by assumption) (by omega) | exact slOk_of (by assumption) | exact bufOk_of (by assumption) (by omega) | exact ixok_ofR (by assumption) (by omega) | exact slOk_ofR (by assumption) | exact lenOk_of (by assumption) (by omega) | exact ixok_of8 (by assumption) (by omega) | fail) only [loop_unf, loopK_N, loopK_E, loopK_R, RAs, RBs, RCs, RDs, REs, RFs, RGs, RHs, RIs, RJs, RKs, RLs, RRt, Nat.reduceLT, Nat.reduceEqDiff, Nat.reduceAdd, Nat.reduceSub, RXa, RXb, RXc, methR, methE, methM, ar_ld, ar_ix, RSl, RSr, RSm, *]
           refine ih _ _ _ _ _ _ _ _ h (by omega) ?_ ?_ ?_ ?_ ?_ ?_ ?_ ?_ ?_
           all_goals simp (disch := first | decide | omega | assumption | exact isS_of (by assumption) | exact ixok_of (by assumption) (by omega) | exact slOk_of (by assumption) | exact bufOk_of (by assumption) (by omega) | exact ixok_ofR (by assumption) (by omega) | exact slOk_ofR (by assumption) | exact lenOk_of (by assumption) (by omega) | exact ixok_of8 (by assumption) (by omega) | fail) only [RAs, RBs, RCs, RDs, REs, RFs, RGs, RHs, RIs, RJs, RKs, RLs, RRt, Nat.reduceLT, Nat.reduceEqDiff, Nat.reduceAdd, Nat.reduceSub, RXa, RXb, RXc, methR, methE, methM, ar_ld, ar_ix, RSl, RSr, RSm, *])
        | (have hg_ : K _ _ = _ := h
           clear hg_
           simp (disch := first | decide | omega | assumption | exact isS_of (by assumption) | exact ixok_of (by assumption) (by omega) | exact slOk_of (by assumption) | exact bufOk_of (by assumption) (by omega) | exact ixok_ofR (by assumption) (by omega) | exact slOk_ofR (by assumption) | exact lenOk_of (by assumption) (by omega) | exact ixok_of8 (by assumption) (by omega) | fail) only [loop_unf, loopK_N, loopK_E, loopK_R, RAs, RBs, RCs, RDs, REs, RFs, RGs, RHs, RIs, RJs, RKs, RLs, RRt, Nat.reduceLT, Nat.reduceEqDiff, Nat.reduceAdd, Nat.reduceSub, RXa, RXb, RXc, methR, methE, methM, ar_ld, ar_ix, RSl, RSr, RSm, *]
           refine hK _ _ _ _ _ h ?_ ?_ ?_ ?_ ?_ ?_
           all_goals simp (disch := first | decide | omega | assumption | exact isS_of (by assumption) | exact ixok_of (by assumption) (by omega) | exact slOk_of (by assumption) | exact bufOk_of (by assumption) (by omega) | exact ixok_ofR (by assumption) (by omega) | exact slOk_ofR (by assumption) | exact lenOk_of (by assumption) (by omega) | exact ixok_of8 (by assumption) (by omega) | fail) only [RAs, RBs, RCs, RDs, REs, RFs, RGs, RHs, RIs, RJs, RKs, RLs, RRt, Nat.reduceLT, Nat.reduceEqDiff, Nat.reduceAdd, Nat.reduceSub, RXa, RXb, RXc, methR, methE, methM, ar_ld, ar_ix, RSl, RSr, RSm, *])
        | (simp only [Option.some.injEq, Prod.mk.injEq] at h
           obtain ⟨rfl, rfl⟩ := h
           simp (disch := first | decide | omega | assumption | exact isS_of (by assumption) | exact ixok_of (by assumption) (by omega) | exact slOk_of (by assumption) | exact bufOk_of (by assumption) (by omega) | exact ixok_ofR (by assumption) (by omega) | exact slOk_ofR (by assumption) | exact lenOk_of (by assumption) (by omega) | exact ixok_of8 (by assumption) (by omega) | fail) only [W4x3, loop_unf, loopK_N, loopK_E, loopK_R, RAs, RBs, RCs, RDs, REs, RFs, RGs, RHs, RIs, RJs, RKs, RLs, RRt, Nat.reduceLT, Nat.reduceEqDiff, Nat.reduceAdd, Nat.reduceSub, RXa, RXb, RXc, methR, methE, methM, ar_ld, ar_ix, RSl, RSr, RSm, *])

attribute [local irreducible] raAll
/-- ticketlinelaw31.GateRaces: the loop 1 -/
def raPick (kl km : Nat) (mo : Int) (pv av : AV) (rd : Int) (K : Int → Mo → Option (AV × Mo)) : Nat → Int → Mo → Option (AV × Mo)
  | 0, k, O => none
  | m + 1, k, O =>
    match rd8 O pv with
    | some pl =>
      if pl.length ≤ 1000 then
        if k < (pl.length : Int) then
          if 0 ≤ k then
            match pl[k.toNat]? with
            | some c =>
              if 0 ≤ c ∧ c ≤ 255 then
                match rdR O av with
                | some l =>
                  if l.length ≤ 1000 then
                    if 0 < (l.length : Int) then
                      if 0 ≤ c % (l.length : Int) ∧ c % (l.length : Int) < (l.length : Int) then
                        match l[(c % (l.length : Int)).toNat]? with
                        | some kv =>
                          match vstepS [.ref 0 kv 0, .ref 0 km 0] O with
                          | some (.tup [.bool w, .bool false], Oa) =>
                            match crowdS [av] Oa with
                            | some (.int .i64 cc, Ob) => if mo < cc then none else raPick kl km mo pv av rd K m (k + 1) Ob
                            | _ => none
                          | _ => none
                        | _ => none
                      else none
                    else none
                  else none
                | _ => none
              else none
            | _ => none
          else none
        else raAll kl km mo pv av rd K 1002 false false 0 O
      else none
    | _ => none
theorem raPick_loop {S : Ms} (kl km : Nat) (mo : Int) (pv av : AV) (rd : Int) (K :  Int → Mo → Option (AV × Mo)) (h0 : 0 ≤ rd) (h1 : rd ≤ 3000) (hm0 : 0 ≤ mo) (hm1 : mo ≤ 255) (Mx : Nat) (hK : ∀ (rd : Int) (O : Mo) (env : Env) (r : AV) (O' : Mo), K rd O = some (r, O') → env 1 = .int .u8 mo → env 3 = pv → env 9 = .ref 0 kl 0 → env 10 = .ref 0 km 0 → env 12 = av → env 15 = .int .i64 rd → W4x3 cfgA (tabC [(13, known31S), (14, formatS), (20, enter31S), (16, leave31S), (24, vstepS), (25, crowdS), (26, leaveDoneS), (23, looksS)]) 100000 (loopN (exec cfgA (tabC [(13, known31S), (14, formatS), (20, enter31S), (16, leave31S), (24, vstepS), (25, crowdS), (26, leaveDoneS), (23, looksS)]) 100000 B4x3) [] Mx ⟨leOf 173 env, O, S ++ [[]]⟩) = some (r, O', S)) : ∀ (n : Nat) (k : Int) (O : Mo) (env : Env) (M : Nat) (r : AV) (O' : Mo) (h : raPick kl km mo pv av rd K n k O = some (r, O')) (hM : n < M) (e0 : env 1 = .int .u8 mo) (e1 : env 3 = pv) (e2 : env 9 = .ref 0 kl 0) (e3 : env 10 = .ref 0 km 0) (e4 : env 12 = av) (e5 : env 15 = .int .i64 rd) (e6 : env 16 = .int .i64 k),
    W4x3 cfgA (tabC [(13, known31S), (14, formatS), (20, enter31S), (16, leave31S), (24, vstepS), (25, crowdS), (26, leaveDoneS), (23, looksS)]) 100000 (loopK (exec cfgA (tabC [(13, known31S), (14, formatS), (20, enter31S), (16, leave31S), (24, vstepS), (25, crowdS), (26, leaveDoneS), (23, looksS)]) 100000 B4x3) Mx (seqC (cfg := cfgA) (call := tabC [(13, known31S), (14, formatS), (20, enter31S), (16, leave31S), (24, vstepS), (25, crowdS), (26, leaveDoneS), (23, looksS)]) 100000 (blockC 3 (seqC (cfg := cfgA) (call := tabC [(13, known31S), (14, formatS), (20, enter31S), (16, leave31S), (24, vstepS), (25, crowdS), (26, leaveDoneS), (23, looksS)]) 100000 (blockC 4 (loopN (exec cfgA (tabC [(13, known31S), (14, formatS), (20, enter31S), (16, leave31S), (24, vstepS), (25, crowdS), (26, leaveDoneS), (23, looksS)]) 100000 B4x1) [] M ⟨leOf 173 env, O, S ++ [[]]⟩)) (.seq
 (.ops 26 [⟨some 19, none, .mv (.c (.bool false)), []⟩,
 ⟨some 20, none, .mv (.c (.bool false)), []⟩])
 (.seq
 (.seq
 (.ops 27 [⟨some 21, none, .mv (.c (.int .i64 0)), []⟩])
 (.block 6
 (.loop [] B4x2)))
 (.seq
 (.seq
 (.ops 35 [⟨some 163, none, .mv (.t 19), []⟩,
 ⟨some 164, none, .un .not (.t 163), []⟩])
 (.cond (.t 164)
 (.seq
 (.ops 36 [⟨some 165, none, .ld 2 true (.t 9), []⟩,
 ⟨some 166, none, .mv (.t 10), []⟩,
 ⟨some 167, none, .call 23 [.t 165, .t 166, .c (.int .i64 0), .c (.nils)], []⟩,
 ⟨some 168, none, .mv (.t 167), []⟩,
 ⟨some 169, some (168, true), .call 13 [], []⟩,
 ⟨some 170, none, .pick (.t 168) (.t 169) (.c (.bool false)), []⟩,
 ⟨some 8, none, .mv (.t 170), []⟩])
 .ret)
 .skip))
 (.seq
 (.ops 37 [⟨some 171, none, .mv (.t 20), []⟩,
 ⟨some 172, none, .un .not (.t 171), []⟩])
 (.cond (.t 172)
 (.seq
 (.ops 38 [⟨some 8, none, .mv (.c (.bool false)), []⟩])
 .ret)
 .skip))))))) (.ops 17 [⟨some 97, none, .mv (.t 15), []⟩,
 ⟨some 98, none, .bin .add (.t 97) (.c (.int .i64 1)), []⟩,
 ⟨some 15, none, .mv (.t 98), []⟩]))) = some (r, O', S) := by
  intro n
  induction n with
  | zero =>
    intro k O env M r O' h hM e0 e1 e2 e3 e4 e5 e6
    unfold raPick at h
    first | (cases h; done) | (dsimp only at h; cases h; done) | (split at h <;> first | (cases h; done) | (exfalso; omega))
  | succ n ih =>
    intro k O env M r O' h hM e0 e1 e2 e3 e4 e5 e6
    obtain ⟨M, rfl⟩ : ∃ M', M = M' + 1 := ⟨M - 1, by omega⟩
    unfold raPick at h
    repeat' (split at h)
    all_goals first | (cases h; done) | (dsimp only at h; cases h; done) | (exfalso; omega) | skip
    all_goals
      try dsimp only at h
      try simp only [acc, accZ, errA] at *
      first
        | (have hg_ : raPick kl km mo pv av rd K n _ _ = _ := h
           clear hg_
           simp (disch := first | decide | omega | assumption | exact isS_of (by assumption) | exact ixok_of (by assumption) (by omega) | exact slOk_of (by assumption) | exact bufOk_of (by assumption) (by omega) | exact ixok_ofR (by assumption) (by omega) | exact slOk_ofR (by assumption) | exact lenOk_of (by assumption) (by omega) | exact ixok_of8 (by assumption) (by omega) | fail) only [loop_unf, loopK_N, loopK_E, loopK_R, RAs, RBs, RCs, RDs, REs, RFs, RGs, RHs, RIs, RJs, RKs, RLs, RRt, Nat.reduceLT, Nat.reduceEqDiff, Nat.reduceAdd, Nat.reduceSub, RXa, RXb, RXc, methR, methE, methM, ar_ld, ar_ix, RSl, RSr, RSm, *]
           refine ih _ _ _ _ _ _ h (by omega) ?_ ?_ ?_ ?_ ?_ ?_ ?_
           all_goals simp (disch := first | decide | omega | assumption | exact isS_of (by assumption) | exact ixok_of (by assumption) (by omega) | exact slOk_of (by assumption) | exact bufOk_of (by assumption) (by omega) | exact ixok_ofR (by assumption) (by omega) | exact slOk_ofR (by assumption) | exact lenOk_of (by assumption) (by omega) | exact ixok_of8 (by assumption) (by omega) | fail) only [RAs, RBs, RCs, RDs, REs, RFs, RGs, RHs, RIs, RJs, RKs, RLs, RRt, Nat.reduceLT, Nat.reduceEqDiff, Nat.reduceAdd, Nat.reduceSub, RXa, RXb, RXc, methR, methE, methM, ar_ld, ar_ix, RSl, RSr, RSm, *])
        | (have hg_ : raAll _ _ _ _ _ _ _ _ _ _ _ _ = _ := h
           clear hg_
           simp (disch := first | decide | omega | assumption | exact isS_of (by assumption) | exact ixok_of (by assumption) (by omega) | exact slOk_of (by assumption) | exact bufOk_of (by assumption) (by omega) | exact ixok_ofR (by assumption) (by omega) | exact slOk_ofR (by assumption) | exact lenOk_of (by assumption) (by omega) | exact ixok_of8 (by assumption) (by omega) | fail) only [loop_unf, loopK_N, loopK_E, loopK_R, RAs, RBs, RCs, RDs, REs, RFs, RGs, RHs, RIs, RJs, RKs, RLs, RRt, Nat.reduceLT, Nat.reduceEqDiff, Nat.reduceAdd, Nat.reduceSub, RXa, RXb, RXc, methR, methE, methM, ar_ld, ar_ix, RSl, RSr, RSm, *]
           simp (disch := first | decide | omega | assumption | exact isS_of (by assumption) | exact ixok_of (by assumption) (by omega) | exact slOk_of (by assumption) | exact bufOk_of (by assumption) (by omega) | exact ixok_ofR (by assumption) (by omega) | exact slOk_ofR (by assumption) | exact lenOk_of (by assumption) (by omega) | exact ixok_of8 (by assumption) (by omega) | fail) only [e_loop, RAs, RBs, RCs, RDs, REs, RFs, RGs, RHs, RIs, RJs, RKs, RLs, RRt, Nat.reduceLT, Nat.reduceEqDiff, Nat.reduceAdd, Nat.reduceSub, RXa, RXb, RXc, methR, methE, methM, ar_ld, ar_ix, RSl, RSr, RSm, *]
           refine raAll_loop _ _ _ _ _ _ _ (by omega) (by omega) (by omega) (by omega) _ hK _ _ _ _ _ _ _ _ _ h (by omega) ?_ ?_ ?_ ?_ ?_ ?_ ?_ ?_ ?_
           all_goals simp (disch := first | decide | omega | assumption | exact isS_of (by assumption) | exact ixok_of (by assumption) (by omega) | exact slOk_of (by assumption) | exact bufOk_of (by assumption) (by omega) | exact ixok_ofR (by assumption) (by omega) | exact slOk_ofR (by assumption) | exact lenOk_of (by assumption) (by omega) | exact ixok_of8 (by assumption) (by omega) | fail) only [RAs, RBs, RCs, RDs, REs, RFs, RGs, RHs, RIs, RJs, RKs, RLs, RRt, Nat.reduceLT, Nat.reduceEqDiff, Nat.reduceAdd, Nat.reduceSub, RXa, RXb, RXc, methR, methE, methM, ar_ld, ar_ix, RSl, RSr, RSm, *])
        | (have hg_ : K _ _ = _ := h
           clear hg_
           simp (disch := first | decide | omega | assumption | exact isS_of (by assumption) | exact ixok_of (by assumption) (by omega) | exact slOk_of (by assumption) | exact bufOk_of (by assumption) (by omega) | exact ixok_ofR (by assumption) (by omega) | exact slOk_ofR (by assumption) | exact lenOk_of (by assumption) (by omega) | exact ixok_of8 (by assumption) (by omega) | fail) only [loop_unf, loopK_N, loopK_E, loopK_R, RAs, RBs, RCs, RDs, REs, RFs, RGs, RHs, RIs, RJs, RKs, RLs, RRt, Nat.reduceLT, Nat.reduceEqDiff, Nat.reduceAdd, Nat.reduceSub, RXa, RXb, RXc, methR, methE, methM, ar_ld, ar_ix, RSl, RSr, RSm, *]
           refine hK _ _ _ _ _ h ?_ ?_ ?_ ?_ ?_ ?_
           all_goals simp (disch := first | decide | omega | assumption | exact isS_of (by assumption) | exact ixok_of (by assumption) (by omega) | exact slOk_of (by assumption) | exact bufOk_of (by assumption) (by omega) | exact ixok_ofR (by assumption) (by omega) | exact slOk_ofR (by assumption) | exact lenOk_of (by assumption) (by omega) | exact ixok_of8 (by assumption) (by omega) | fail) only [RAs, RBs, RCs, RDs, REs, RFs, RGs, RHs, RIs, RJs, RKs, RLs, RRt, Nat.reduceLT, Nat.reduceEqDiff, Nat.reduceAdd, Nat.reduceSub, RXa, RXb, RXc, methR, methE, methM, ar_ld, ar_ix, RSl, RSr, RSm, *])
        | (simp only [Option.some.injEq, Prod.mk.injEq] at h
           obtain ⟨rfl, rfl⟩ := h
           simp (disch := first | decide | omega | assumption | exact isS_of (by assumption) | exact ixok_of (by assumption) (by omega) | exact slOk_of (by assumption) | exact bufOk_of (by assumption) (by omega) | exact ixok_ofR (by assumption) (by omega) | exact slOk_ofR (by assumption) | exact lenOk_of (by assumption) (by omega) | exact ixok_of8 (by assumption) (by omega) | fail) only [W4x3, loop_unf, loopK_N, loopK_E, loopK_R, RAs, RBs, RCs, RDs, REs, RFs, RGs, RHs, RIs, RJs, RKs, RLs, RRt, Nat.reduceLT, Nat.reduceEqDiff, Nat.reduceAdd, Nat.reduceSub, RXa, RXb, RXc, methR, methE, methM, ar_ld, ar_ix, RSl, RSr, RSm, *])

attribute [local irreducible] raPick
/-- ticketlinelaw31.GateRaces: the loop 3 -/
def raRnd (kl km : Nat) (mo : Int) (pv av : AV) : Nat → Int → Mo → Option (AV × Mo)
  | 0, rd, O => none
  | m + 1, rd, O =>
    if rd < 3000 then
      if 0 ≤ rd then raPick kl km mo pv av rd (fun rd O => raRnd kl km mo pv av m rd O) 1002 0 O
      else none
    else none
theorem raRnd_loop {S : Ms} (kl km : Nat) (mo : Int) (pv av : AV) (hm0 : 0 ≤ mo) (hm1 : mo ≤ 255) : ∀ (n : Nat) (rd : Int) (O : Mo) (env : Env) (M : Nat) (r : AV) (O' : Mo) (h : raRnd kl km mo pv av n rd O = some (r, O')) (hM : n < M) (e0 : env 1 = .int .u8 mo) (e1 : env 3 = pv) (e2 : env 9 = .ref 0 kl 0) (e3 : env 10 = .ref 0 km 0) (e4 : env 12 = av) (e5 : env 15 = .int .i64 rd),
    W4x3 cfgA (tabC [(13, known31S), (14, formatS), (20, enter31S), (16, leave31S), (24, vstepS), (25, crowdS), (26, leaveDoneS), (23, looksS)]) 100000 (loopN (exec cfgA (tabC [(13, known31S), (14, formatS), (20, enter31S), (16, leave31S), (24, vstepS), (25, crowdS), (26, leaveDoneS), (23, looksS)]) 100000 B4x3) [] M ⟨leOf 173 env, O, S ++ [[]]⟩) = some (r, O', S) := by
  intro n
  induction n with
  | zero =>
    intro rd O env M r O' h hM e0 e1 e2 e3 e4 e5
    unfold raRnd at h
    first | (cases h; done) | (dsimp only at h; cases h; done) | (split at h <;> first | (cases h; done) | (exfalso; omega))
  | succ n ih =>
    intro rd O env M r O' h hM e0 e1 e2 e3 e4 e5
    obtain ⟨M, rfl⟩ : ∃ M', M = M' + 1 := ⟨M - 1, by omega⟩
    unfold raRnd at h
    repeat' (split at h)
    all_goals first | (cases h; done) | (dsimp only at h; cases h; done) | (exfalso; omega) | skip
    all_goals
      try dsimp only at h
      try simp only [acc, accZ, errA] at *
      first
        | (have hg_ : raRnd kl km mo pv av n _ _ = _ := h
           clear hg_
           simp (disch := first | decide | omega | assumption | exact isS_of (by assumption) | exact ixok_of (by assumption) (by omega) | exact slOk_of (by assumption) | exact bufOk_of (by assumption) (by omega) | exact ixok_ofR (by assumption) (by omega) | exact slOk_ofR (by assumption) | exact lenOk_of (by assumption) (by omega) | exact ixok_of8 (by assumption) (by omega) | fail) only [loop_unf, loopK_N, loopK_E, loopK_R, RAs, RBs, RCs, RDs, REs, RFs, RGs, RHs, RIs, RJs, RKs, RLs, RRt, Nat.reduceLT, Nat.reduceEqDiff, Nat.reduceAdd, Nat.reduceSub, RXa, RXb, RXc, methR, methE, methM, ar_ld, ar_ix, RSl, RSr, RSm, *]
           refine ih _ _ _ _ _ _ h (by omega) ?_ ?_ ?_ ?_ ?_ ?_
           all_goals simp (disch := first | decide | omega | assumption | exact isS_of (by assumption) | exact ixok_of (by assumption) (by omega) | exact slOk_of (by assumption) | exact bufOk_of (by assumption) (by omega) | exact ixok_ofR (by assumption) (by omega) | exact slOk_ofR (by assumption) | exact lenOk_of (by assumption) (by omega) | exact ixok_of8 (by assumption) (by omega) | fail) only [RAs, RBs, RCs, RDs, REs, RFs, RGs, RHs, RIs, RJs, RKs, RLs, RRt, Nat.reduceLT, Nat.reduceEqDiff, Nat.reduceAdd, Nat.reduceSub, RXa, RXb, RXc, methR, methE, methM, ar_ld, ar_ix, RSl, RSr, RSm, *])
        | (have hg_ : raPick _ _ _ _ _ _ _ _ _ _ = _ := h
           clear hg_
           simp (disch := first | decide | omega | assumption | exact isS_of (by assumption) | exact ixok_of (by assumption) (by omega) | exact slOk_of (by assumption) | exact bufOk_of (by assumption) (by omega) | exact ixok_ofR (by assumption) (by omega) | exact slOk_ofR (by assumption) | exact lenOk_of (by assumption) (by omega) | exact ixok_of8 (by assumption) (by omega) | fail) only [loop_unf, loopK_N, loopK_E, loopK_R, RAs, RBs, RCs, RDs, REs, RFs, RGs, RHs, RIs, RJs, RKs, RLs, RRt, Nat.reduceLT, Nat.reduceEqDiff, Nat.reduceAdd, Nat.reduceSub, RXa, RXb, RXc, methR, methE, methM, ar_ld, ar_ix, RSl, RSr, RSm, *]
           refine raPick_loop _ _ _ _ _ _ _ (by omega) (by omega) (by omega) (by omega) _ (fun x0 O env r O' h y0 y1 y2 y3 y4 y5 => ih x0 O env _ r O' h (by omega) y0 y1 y2 y3 y4 y5) _ _ _ _ _ _ _ h (by omega) ?_ ?_ ?_ ?_ ?_ ?_ ?_
           all_goals simp (disch := first | decide | omega | assumption | exact isS_of (by assumption) | exact ixok_of (by assumption) (by omega) | exact slOk_of (by assumption) | exact bufOk_of (by assumption) (by omega) | exact ixok_ofR (by assumption) (by omega) | exact slOk_ofR (by assumption) | exact lenOk_of (by assumption) (by omega) | exact ixok_of8 (by assumption) (by omega) | fail) only [RAs, RBs, RCs, RDs, REs, RFs, RGs, RHs, RIs, RJs, RKs, RLs, RRt, Nat.reduceLT, Nat.reduceEqDiff, Nat.reduceAdd, Nat.reduceSub, RXa, RXb, RXc, methR, methE, methM, ar_ld, ar_ix, RSl, RSr, RSm, *])
        | (simp only [Option.some.injEq, Prod.mk.injEq] at h
           obtain ⟨rfl, rfl⟩ := h
           simp (disch := first | decide | omega | assumption | exact isS_of (by assumption) | exact ixok_of (by assumption) (by omega) | exact slOk_of (by assumption) | exact bufOk_of (by assumption) (by omega) | exact ixok_ofR (by assumption) (by omega) | exact slOk_ofR (by assumption) | exact lenOk_of (by assumption) (by omega) | exact ixok_of8 (by assumption) (by omega) | fail) only [W4x3, loop_unf, loopK_N, loopK_E, loopK_R, RAs, RBs, RCs, RDs, REs, RFs, RGs, RHs, RIs, RJs, RKs, RLs, RRt, Nat.reduceLT, Nat.reduceEqDiff, Nat.reduceAdd, Nat.reduceSub, RXa, RXb, RXc, methR, methE, methM, ar_ld, ar_ix, RSl, RSr, RSm, *])

attribute [local irreducible] raRnd
/-- ticketlinelaw31.GateRaces: the loop 0 -/
def raI1 (kl ks kx : Nat) (p t s : Int) (av : AV) (R : AV → Mo → Option (AV × Mo)) (i : Int) (Oa : Mo) : Option (AV × Mo) :=
  match Oa[kl]? with
  | some (.arr [.int .i64 p2, .int .i64 t2]) =>
    if p2 = p then
      if t2 = t then
        match Oa[ks]? with
        | some (.arr cs) =>
          match cs[i.toNat]? with
          | some (.int .u8 s2) =>
            if s2 = s then
              match leave31S [.agg [.int .i64 p, .int .i64 t], .int .i64 i] Oa with
              | some (.ref 0 ky 0, Ob) =>
                match Ob[ks]? with
                | some (.arr cs3) =>
                  match cs3[i.toNat]? with
                  | some (.int .u8 s3) =>
                    if s3 = s then
                      match growR (Ob ++ [.arr [.ref 0 kx 0, .ref 0 ky 0, .int .i64 (s % 50)]] ++ [.buf 1 [.ref 0 Ob.length 0]]) av Ob.length with
                      | some (av2, Oc) => R av2 Oc
                      | _ => none
                    else none
                  | _ => none
                | _ => none
              | _ => none
            else none
          | _ => none
        | _ => none
      else none
    else none
  | _ => none
def raIni (kl km ks : Nat) (T mo : Int) (pv : AV) : Nat → Int → AV → Mo → Option (AV × Mo)
  | 0, i, av, O => none
  | m + 1, i, av, O =>
    if i < T then
      if 0 ≤ i ∧ i < 6 then
        match O[kl]? with
        | some (.arr [.int .i64 p, .int .i64 t]) =>
          match O[ks]? with
          | some (.arr cs) =>
            match cs[i.toNat]? with
            | some (.int .u8 s) =>
              if 0 ≤ s ∧ s ≤ 255 then
                if 0 ≤ s % 50 ∧ s % 50 ≤ 255 then
                  match enter31S [.agg [.int .i64 p, .int .i64 t], .int .i64 i, .int .i64 mo] O with
                  | some (.ref 0 kx 0, Oa) => raI1 kl ks kx p t s av (fun av2 O => raIni kl km ks T mo pv m (i + 1) av2 O) i Oa
                  | _ => none
                else none
              else none
            | _ => none
          | _ => none
        | _ => none
      else none
    else raRnd kl km mo pv av 3002 0 O
theorem raIni_loop {S : Ms} (kl km ks : Nat) (T mo : Int) (pv : AV) (hT0 : 1 ≤ T) (hT1 : T ≤ 255) (hm0 : 0 ≤ mo) (hm1 : mo ≤ 255) : ∀ (n : Nat) (i : Int) (av : AV) (O : Mo) (env : Env) (M : Nat) (r : AV) (O' : Mo) (h : raIni kl km ks T mo pv n i av O = some (r, O')) (hM : n < M) (e0 : env 0 = .int .u8 T) (e1 : env 1 = .int .u8 mo) (e2 : env 3 = pv) (e3 : env 6 = .ref 0 ks 0) (e4 : env 9 = .ref 0 kl 0) (e5 : env 10 = .ref 0 km 0) (e6 : env 12 = av) (e7 : env 13 = .int .i64 i),
    W4x0 cfgA (tabC [(13, known31S), (14, formatS), (20, enter31S), (16, leave31S), (24, vstepS), (25, crowdS), (26, leaveDoneS), (23, looksS)]) 100000 (loopN (exec cfgA (tabC [(13, known31S), (14, formatS), (20, enter31S), (16, leave31S), (24, vstepS), (25, crowdS), (26, leaveDoneS), (23, looksS)]) 100000 B4x0) [] M ⟨leOf 173 env, O, S ++ [[]]⟩) = some (r, O', S) := by
  intro n
  induction n with
  | zero =>
    intro i av O env M r O' h hM e0 e1 e2 e3 e4 e5 e6 e7
    unfold raIni at h
    first | (cases h; done) | (dsimp only at h; cases h; done) | (split at h <;> first | (cases h; done) | (exfalso; omega))
  | succ n ih =>
    intro i av O env M r O' h hM e0 e1 e2 e3 e4 e5 e6 e7
    obtain ⟨M, rfl⟩ : ∃ M', M = M' + 1 := ⟨M - 1, by omega⟩
    unfold raIni at h
    try unfold raI1 at h
    repeat' (split at h)
    all_goals first | (cases h; done) | (dsimp only at h; cases h; done) | (exfalso; omega) | skip
    all_goals
      try dsimp only at h
      try simp only [acc, accZ, errA] at *
      first
        | (have hg_ : raIni kl km ks T mo pv n _ _ _ = _ := h
           clear hg_
           simp (disch := first | decide | omega | assumption | exact isS_of (by assumption) | exact ixok_of (by assumption) (by omega) | exact slOk_of (by assumption) | exact bufOk_of (by assumption) (by omega) | exact ixok_ofR (by assumption) (by omega) | exact slOk_ofR (by assumption) | exact lenOk_of (by assumption) (by omega) | exact ixok_of8 (by assumption) (by omega) | fail) only [loop_unf, loopK_N, loopK_E, loopK_R, RAs, RBs, RCs, RDs, REs, RFs, RGs, RHs, RIs, RJs, RKs, RLs, RRt, Nat.reduceLT, Nat.reduceEqDiff, Nat.reduceAdd, Nat.reduceSub, RXa, RXb, RXc, methR, methE, methM, ar_ld, ar_ix, RSl, RSr, RSm, *]
           refine ih _ _ _ _ _ _ _ h (by omega) ?_ ?_ ?_ ?_ ?_ ?_ ?_ ?_
           all_goals simp (disch := first | decide | omega | assumption | exact isS_of (by assumption) | exact ixok_of (by assumption) (by omega) | exact slOk_of (by assumption) | exact bufOk_of (by assumption) (by omega) | exact ixok_ofR (by assumption) (by omega) | exact slOk_ofR (by assumption) | exact lenOk_of (by assumption) (by omega) | exact ixok_of8 (by assumption) (by omega) | fail) only [RAs, RBs, RCs, RDs, REs, RFs, RGs, RHs, RIs, RJs, RKs, RLs, RRt, Nat.reduceLT, Nat.reduceEqDiff, Nat.reduceAdd, Nat.reduceSub, RXa, RXb, RXc, methR, methE, methM, ar_ld, ar_ix, RSl, RSr, RSm, *])
        | (have hg_ : raRnd _ _ _ _ _ _ _ _ = _ := h
           clear hg_
           simp (disch := first | decide | omega | assumption | exact isS_of (by assumption) | exact ixok_of (by assumption) (by omega) | exact slOk_of (by assumption) | exact bufOk_of (by assumption) (by omega) | exact ixok_ofR (by assumption) (by omega) | exact slOk_ofR (by assumption) | exact lenOk_of (by assumption) (by omega) | exact ixok_of8 (by assumption) (by omega) | fail) only [loop_unf, loopK_N, loopK_E, loopK_R, RAs, RBs, RCs, RDs, REs, RFs, RGs, RHs, RIs, RJs, RKs, RLs, RRt, Nat.reduceLT, Nat.reduceEqDiff, Nat.reduceAdd, Nat.reduceSub, RXa, RXb, RXc, methR, methE, methM, ar_ld, ar_ix, RSl, RSr, RSm, *]
           simp (disch := first | decide | omega | assumption | exact isS_of (by assumption) | exact ixok_of (by assumption) (by omega) | exact slOk_of (by assumption) | exact bufOk_of (by assumption) (by omega) | exact ixok_ofR (by assumption) (by omega) | exact slOk_ofR (by assumption) | exact lenOk_of (by assumption) (by omega) | exact ixok_of8 (by assumption) (by omega) | fail) only [W4x0, e_loop, RAs, RBs, RCs, RDs, REs, RFs, RGs, RHs, RIs, RJs, RKs, RLs, RRt, Nat.reduceLT, Nat.reduceEqDiff, Nat.reduceAdd, Nat.reduceSub, RXa, RXb, RXc, methR, methE, methM, ar_ld, ar_ix, RSl, RSr, RSm, *]
           refine raRnd_loop _ _ _ _ _ (by omega) (by omega) _ _ _ _ _ _ _ h (by omega) ?_ ?_ ?_ ?_ ?_ ?_
           all_goals simp (disch := first | decide | omega | assumption | exact isS_of (by assumption) | exact ixok_of (by assumption) (by omega) | exact slOk_of (by assumption) | exact bufOk_of (by assumption) (by omega) | exact ixok_ofR (by assumption) (by omega) | exact slOk_ofR (by assumption) | exact lenOk_of (by assumption) (by omega) | exact ixok_of8 (by assumption) (by omega) | fail) only [RAs, RBs, RCs, RDs, REs, RFs, RGs, RHs, RIs, RJs, RKs, RLs, RRt, Nat.reduceLT, Nat.reduceEqDiff, Nat.reduceAdd, Nat.reduceSub, RXa, RXb, RXc, methR, methE, methM, ar_ld, ar_ix, RSl, RSr, RSm, *])
        | (simp only [Option.some.injEq, Prod.mk.injEq] at h
           obtain ⟨rfl, rfl⟩ := h
           simp (disch := first | decide | omega | assumption | exact isS_of (by assumption) | exact ixok_of (by assumption) (by omega) | exact slOk_of (by assumption) | exact bufOk_of (by assumption) (by omega) | exact ixok_ofR (by assumption) (by omega) | exact slOk_ofR (by assumption) | exact lenOk_of (by assumption) (by omega) | exact ixok_of8 (by assumption) (by omega) | fail) only [W4x0, loop_unf, loopK_N, loopK_E, loopK_R, RAs, RBs, RCs, RDs, REs, RFs, RGs, RHs, RIs, RJs, RKs, RLs, RRt, Nat.reduceLT, Nat.reduceEqDiff, Nat.reduceAdd, Nat.reduceSub, RXa, RXb, RXc, methR, methE, methM, ar_ld, ar_ix, RSl, RSr, RSm, *])

attribute [local irreducible] raIni
/-- ticketlinelaw31.GateRaces -/
def grK (O : Mo) : Option (AV × Mo) :=
  match known31S [] O with
  | some (.bool d, Oa) => some (.bool d, Oa)
  | _ => none
def gracesS : Sp := fun args O =>
  match args with
  | [.int .u8 T, .int .u8 mo, .agg [.int .u8 s0, .int .u8 s1, .int .u8 s2, .int .u8 s3, .int .u8 s4, .int .u8 s5], pv] =>
    if 0 ≤ T ∧ T ≤ 255 ∧ 0 ≤ mo ∧ mo ≤ 255 then
      match rd8 (O ++ [.arr [.int .u8 s0, .int .u8 s1, .int .u8 s2, .int .u8 s3, .int .u8 s4, .int .u8 s5]]) pv with
      | some pl =>
        if T < 1 then grK (O ++ [.arr [.int .u8 s0, .int .u8 s1, .int .u8 s2, .int .u8 s3, .int .u8 s4, .int .u8 s5]])
        else if 6 < T then grK (O ++ [.arr [.int .u8 s0, .int .u8 s1, .int .u8 s2, .int .u8 s3, .int .u8 s4, .int .u8 s5]])
        else if mo < 1 then grK (O ++ [.arr [.int .u8 s0, .int .u8 s1, .int .u8 s2, .int .u8 s3, .int .u8 s4, .int .u8 s5]])
        else if 6 < mo then grK (O ++ [.arr [.int .u8 s0, .int .u8 s1, .int .u8 s2, .int .u8 s3, .int .u8 s4, .int .u8 s5]])
        else if 60 < (pl.length : Int) then grK (O ++ [.arr [.int .u8 s0, .int .u8 s1, .int .u8 s2, .int .u8 s3, .int .u8 s4, .int .u8 s5]])
        else
          match formatS [.agg [.int .i64 1, .int .i64 T]] (O ++ [.arr [.int .u8 s0, .int .u8 s1, .int .u8 s2, .int .u8 s3, .int .u8 s4, .int .u8 s5]] ++ [.arr [.int .i64 1, .int .i64 T]]) with
          | some (.tup [.ref 0 km 0, .int .i64 e], Oa) => if e = 0 then raIni (O ++ [ABlk.arr [.int .u8 s0, .int .u8 s1, .int .u8 s2, .int .u8 s3, .int .u8 s4, .int .u8 s5]]).length km O.length T mo pv 50 0 .nils Oa else none
          | _ => none
      | _ => none
    else none
  | _ => none
theorem gracesS_ok : SpOk Tryz.prog 4 gracesS := by
  intro args O r O' h S
  unfold gracesS at h
  repeat' (split at h)
  all_goals first | (cases h; done) | skip
  all_goals try unfold grK at h
  all_goals try (repeat' (split at h))
  all_goals first | (cases h; done) | skip
  all_goals
    try simp only [acc, accZ, errA] at *
    first
      | (simp only [Option.some.injEq, Prod.mk.injEq] at h
         obtain ⟨rfl, rfl⟩ := h
         refine bodyA (tabC_cons known31S_ok (tabC_cons formatS_ok (tabC_cons enter31S_ok (tabC_cons leave31S_ok (tabC_cons vstepS_ok (tabC_cons crowdS_ok (tabC_cons leaveDoneS_ok (tabC_cons looksS_ok (tabC_nil _))))))))) (n := 100000) F4_code ?_
         simp (disch := first | decide | omega | assumption | exact isS_of (by assumption) | exact ixok_of (by assumption) (by omega) | exact slOk_of (by assumption) | exact bufOk_of (by assumption) (by omega) | exact ixok_ofR (by assumption) (by omega) | exact slOk_ofR (by assumption) | exact lenOk_of (by assumption) (by omega) | exact ixok_of8 (by assumption) (by omega) | fail) only [F4, RAs, RBs, RCs, RDs, REs, RFs, RGs, RHs, RIs, RJs, RKs, RLs, RRt, Nat.reduceLT, Nat.reduceEqDiff, Nat.reduceAdd, Nat.reduceSub, RXa, RXb, RXc, methR, methE, methM, ar_ld, ar_ix, RSl, RSr, RSm, acc, accZ, errA, *])
      | (refine bodyA (tabC_cons known31S_ok (tabC_cons formatS_ok (tabC_cons enter31S_ok (tabC_cons leave31S_ok (tabC_cons vstepS_ok (tabC_cons crowdS_ok (tabC_cons leaveDoneS_ok (tabC_cons looksS_ok (tabC_nil _))))))))) (n := 100000) F4_code ?_
         simp (disch := first | decide | omega | assumption | exact isS_of (by assumption) | exact ixok_of (by assumption) (by omega) | exact slOk_of (by assumption) | exact bufOk_of (by assumption) (by omega) | exact ixok_ofR (by assumption) (by omega) | exact slOk_ofR (by assumption) | exact lenOk_of (by assumption) (by omega) | exact ixok_of8 (by assumption) (by omega) | fail) only [F4, RAs, RBs, RCs, RDs, REs, RFs, RGs, RHs, RIs, RJs, RKs, RLs, RRt, Nat.reduceLT, Nat.reduceEqDiff, Nat.reduceAdd, Nat.reduceSub, RXa, RXb, RXc, methR, methE, methM, ar_ld, ar_ix, RSl, RSr, RSm, e_loop, acc, accZ, errA, *]
         refine (fin_skip _ _ _ _ _).trans ?_
         refine raIni_loop _ _ _ _ _ _ (by omega) (by omega) (by omega) (by omega) _ _ _ _ _ _ _ _ h (by omega) ?_ ?_ ?_ ?_ ?_ ?_ ?_ ?_
         all_goals simp (disch := first | decide | omega | assumption | exact isS_of (by assumption) | exact ixok_of (by assumption) (by omega) | exact slOk_of (by assumption) | exact bufOk_of (by assumption) (by omega) | exact ixok_ofR (by assumption) (by omega) | exact slOk_ofR (by assumption) | exact lenOk_of (by assumption) (by omega) | exact ixok_of8 (by assumption) (by omega) | fail) only [RAs, RBs, RCs, RDs, REs, RFs, RGs, RHs, RIs, RJs, RKs, RLs, RRt, Nat.reduceLT, Nat.reduceEqDiff, Nat.reduceAdd, Nat.reduceSub, RXa, RXb, RXc, methR, methE, methM, ar_ld, ar_ix, RSl, RSr, RSm, *])

end Den

/- GateRaces: the visits in the objects. -/
set_option maxRecDepth 100000
set_option maxHeartbeats 1000000
set_option linter.unusedSimpArgs false
set_option linter.unusedVariables false
namespace Den
open Go Go.Proofs

structure Vo (O : Mo) (b t i : Int) (kv ke kl kae kal : Nat) (v : Vs) : Prop where
  C : O[kv]? = some (.arr [.ref 0 ke 0, .ref 0 kl 0, .int .i64 v.s])
  E : ∃ kn, Gn O ke kae kn b t i v.e
  L : ∃ kn, Gn O kl kal kn b t i v.l
  n1 : ke ≠ kl
  n2 : kae ≠ kal
  s : 0 ≤ v.s ∧ v.s ≤ 255
def VO (O : Mo) (b t i : Int) (kv : Nat) (v : Vs) : Prop := ∃ ke kl kae kal, Vo O b t i kv ke kl kae kal v
/-- What a step of another thread keeps. -/
structure KP (O O' : Mo) (b t i : Int) : Prop where
  oth : ∀ j kv v, j ≠ i → VO O b t j kv v → VO O' b t j kv v
  lay : ∀ (k : Nat) (x y : Int), O[k]? = some (ABlk.arr [.int .i64 x, .int .i64 y]) → O'[k]? = some (ABlk.arr [.int .i64 x, .int .i64 y])
  ref : ∀ v l, GrR O v l → GrR O' v l
theorem kp_run {O O' : Mo} {km kb k ka kn : Nat} {W : List Int} {b t i : Int} {p : GP} (m : MemW O km kb W) (h : Gn O k ka kn b t i p) (g : Ag O O' [kb, ka, k]) : KP O O' b t i where
  oth j kv v hj hv := by
    obtain ⟨ke, kl, kae, kal, hv⟩ := hv
    obtain ⟨kn1, hE⟩ := hv.E
    obtain ⟨kn2, hL⟩ := hv.L
    refine ⟨ke, kl, kae, kal, ?_, ⟨kn1, hE.other h m hj g⟩, ⟨kn2, hL.other h m hj g⟩, hv.n1, hv.n2, hv.s⟩
    have n1 : kv ≠ kb := ne_get hv.C m.b (by simp)
    have n2 : kv ≠ ka := ne_get hv.C h.A (by simp [subB])
    have n3 : kv ≠ k := ne_get hv.C h.K (by simp [gtB])
    exact g.get hv.C (by simp [n1, n2, n3])
  lay kx x y hk := by
    have n1 : kx ≠ kb := ne_get hk m.b (by simp)
    have n2 : kx ≠ ka := ne_get hk h.A (by simp [subB])
    have n3 : kx ≠ k := ne_get hk h.K (by simp [gtB])
    exact g.get hk (by simp [n1, n2, n3])
  ref v l hv := hv.ag g (own_runR m h hv)
theorem KP.refl (O : Mo) (b t i : Int) : KP O O b t i := ⟨fun _ _ _ _ h => h, fun _ _ _ h => h, fun _ _ h => h⟩
theorem kp_cell {O O' : Mo} {kv ke kl kae kal : Nat} {b t i : Int} {v : Vs} (h : Vo O b t i kv ke kl kae kal v) (g : Ag O O' [kv]) : KP O O' b t i where
  oth j kv2 v2 hj hv := by
    obtain ⟨ke2, kl2, kae2, kal2, hv⟩ := hv
    obtain ⟨kn1, hE⟩ := hv.E
    obtain ⟨kn2, hL⟩ := hv.L
    obtain ⟨kn3, hE3⟩ := h.E
    have hke : ke2 ≠ ke := ne_get hE.K hE3.K (by unfold gtB; intro e; simp at e; omega)
    have hkv : kv2 ≠ kv := ne_get hv.C h.C (by intro e; simp at e; exact hke e.1)
    have aux : ∀ {k ka kn : Nat} {p : GP}, Gn O k ka kn b t j p → Gn O' k ka kn b t j p := fun {k ka kn p} hg => by
      have n1 : k ≠ kv := ne_get hg.K h.C (by simp [gtB])
      have n2 : ka ≠ kv := ne_get hg.A h.C (by simp [subB])
      have n3 : kn ≠ kv := ne_get hg.N.o h.C (by simp)
      exact hg.ag g (by simpa using n1) (by simpa using n2) (by simpa using n3)
    exact ⟨ke2, kl2, kae2, kal2, g.get hv.C (by simpa using hkv), ⟨kn1, aux hE⟩, ⟨kn2, aux hL⟩, hv.n1, hv.n2, hv.s⟩
  lay kx x y hk := by
    have n1 : kx ≠ kv := ne_get hk h.C (by simp)
    exact g.get hk (by simpa using n1)
  ref w l hw := hw.ag g (fun x hx => by
    have : x ≠ kv := ne_get (own_getR hw x hx) h.C (by simp)
    simpa using this)
/-- A step of a visit. -/
theorem vstep_ok {O : Mo} {km kb kv : Nat} {W W' : List Int} {b t i : Int} {v v' : Vs} {w : Bool} (M : MemW O km kb W) (h : VO O b t i kv v) (e0 : v.e.st ≠ 0) (l0 : v.l.st ≠ 0) (hp : visP b t i v W = some (v', W', w)) :
    ∃ O', vstepS [.ref 0 kv 0, .ref 0 km 0] O = some (.tup [.bool w, .bool false], O') ∧ MemW O' km kb W' ∧ VO O' b t i kv v' ∧ KP O O' b t i := by
  obtain ⟨ke, kl, kae, kal, h⟩ := h
  obtain ⟨kne, hE⟩ := h.E
  obtain ⟨knl, hL⟩ := h.L
  have dE := done_enter (hE.ge M) e0
  have dL := done_leave (hL.ge M) l0
  have hC := h.C
  unfold visP at hp
  by_cases e16 : v.e.st = 16
  · rw [if_pos e16] at hp
    simp only [e16, decide_true] at dE
    by_cases hs : 0 < v.s
    · rw [if_pos hs] at hp
      cases hp
      have g : Ag O (O.set kv (.arr [.ref 0 ke 0, .ref 0 kl 0, .int .i64 (v.s - 1)])) [kv] := Ag.set _ _ (by simp)
      have aux : ∀ {k ka kn : Nat} {p : GP}, Gn O k ka kn b t i p → Gn (O.set kv (.arr [.ref 0 ke 0, .ref 0 kl 0, .int .i64 (v.s - 1)])) k ka kn b t i p := fun {k ka kn p} hg => by
        have n1 : k ≠ kv := ne_get hg.K h.C (by simp [gtB])
        have n2 : ka ≠ kv := ne_get hg.A h.C (by simp [subB])
        have n3 : kn ≠ kv := ne_get hg.N.o h.C (by simp)
        exact hg.ag g (by simpa using n1) (by simpa using n2) (by simpa using n3)
      have m1 : km ≠ kv := ne_get M.m h.C (by simp)
      have m2 : kb ≠ kv := ne_get M.b h.C (by simp)
      have hs2 := h.s
      have c1 : v.s ≤ 1000 := by omega
      exact ⟨_, by simp only [vstepS, hC, dE, if_pos hs, if_pos c1], M.ag g (by simpa using m1) (by simpa using m2), ⟨ke, kl, kae, kal, setS h.C, ⟨kne, aux hE⟩, ⟨knl, aux hL⟩, h.n1, h.n2, by show 0 ≤ v.s - 1 ∧ v.s - 1 ≤ 255; omega⟩, kp_cell h g⟩
    · rw [if_neg hs] at hp
      by_cases l16 : v.l.st = 16
      · rw [if_pos l16] at hp
        cases hp
        simp only [l16, decide_true] at dL
        exact ⟨O, by simp only [vstepS, hC, dE, if_neg hs, dL], M, ⟨ke, kl, kae, kal, h⟩, KP.refl _ _ _ _⟩
      · rw [if_neg l16] at hp
        simp only [l16, decide_false] at dL
        split at hp
        · rename_i l' W1 w1 hq
          cases hp
          obtain ⟨O', ka2, e1, mv, g1⟩ := step_leave (hL.ge M) hq
          have g := mv.ag
          have n1 : kv ≠ kb := ne_get h.C M.b (by simp)
          have n2 : kv ≠ kal := ne_get h.C hL.A (by simp [subB])
          have n3 : kv ≠ kl := ne_get h.C hL.K (by simp [gtB])
          have p1 : ke ≠ kb := ne_get hE.K M.b (by simp [gtB])
          have p2 : ke ≠ kal := ne_get hE.K hL.A (by simp [gtB, subB])
          have p3 : kae ≠ kb := ne_get hE.A M.b (by simp [subB])
          have p4 : kae ≠ kl := ne_get hE.A hL.K (by simp [gtB, subB])
          have p5 : kne ≠ kb := ne_get hE.N.o M.b (by simp)
          have p6 : kne ≠ kal := ne_get hE.N.o hL.A (by simp [subB])
          have p7 : kne ≠ kl := ne_get hE.N.o hL.K (by simp [gtB])
          refine ⟨O', by simp only [vstepS, hC, dE, if_neg hs, dL, e1], g1.M, ⟨ke, kl, kae, ka2, g.get h.C (by simp [n1, n2, n3]), ⟨kne, hE.ag g (by simp [p1, p2, h.n1]) (by simp [p3, p4, h.n2]) (by simp [p5, p6, p7])⟩, ⟨knl, g1.gn⟩, h.n1, ?_, h.s⟩, kp_run M hL g⟩
          have := hE.lt
          rcases mv.new with e | e
          · rw [e]; exact h.n2
          · omega
        · cases hp
  · rw [if_neg e16] at hp
    simp only [e16, decide_false] at dE
    split at hp
    · rename_i e' W1 w1 hq
      cases hp
      obtain ⟨O', ka2, e1, mv, g1⟩ := step_enter (hE.ge M) hq
      have g := mv.ag
      have n1 : kv ≠ kb := ne_get h.C M.b (by simp)
      have n2 : kv ≠ kae := ne_get h.C hE.A (by simp [subB])
      have n3 : kv ≠ ke := ne_get h.C hE.K (by simp [gtB])
      have p1 : kl ≠ kb := ne_get hL.K M.b (by simp [gtB])
      have p2 : kl ≠ kae := ne_get hL.K hE.A (by simp [gtB, subB])
      have p3 : kal ≠ kb := ne_get hL.A M.b (by simp [subB])
      have p4 : kal ≠ ke := ne_get hL.A hE.K (by simp [gtB, subB])
      have p5 : knl ≠ kb := ne_get hL.N.o M.b (by simp)
      have p6 : knl ≠ kae := ne_get hL.N.o hE.A (by simp [subB])
      have p7 : knl ≠ ke := ne_get hL.N.o hE.K (by simp [gtB])
      refine ⟨O', by simp only [vstepS, hC, dE, e1], g1.M, ⟨ke, kl, ka2, kal, g.get h.C (by simp [n1, n2, n3]), ⟨kne, g1.gn⟩, ⟨knl, hL.ag g (by simp [p1, p2, h.n1.symm]) (by simp [p3, p4, h.n2.symm]) (by simp [p5, p6, p7])⟩, h.n1, ?_, h.s⟩, kp_run M hE g⟩
      have := hL.lt
      rcases mv.new with e | e
      · rw [e]; exact h.n2
      · omega
    · cases hp
/-- No program is at its zero. -/
theorem rr_nz {b t mo : Int} {W : List Int} {V : Int → Vs} {i : Int} (h : RR b t mo W V) (h0 : 0 ≤ i) (h1 : i < t) : (V i).e.st ≠ 0 ∧ (V i).l.st ≠ 0 := by
  obtain ⟨q, f, I, Q, G, h⟩ := h
  have no : (V i).l = gp0 0 → (V i).l.st ≠ 0 := fun e => by rw [e]; simp [gp0]
  rcases h.th i h0 h1 with hT | ⟨_, hT⟩
  · generalize f i = s at hT
    cases hT with
    | e1 a1 a2 a3 a4 a5 a6 a7 => exact ⟨by omega, no a7⟩
    | e14 a1 a2 a3 a4 a5 => exact ⟨by omega, no a5⟩
    | e15 a1 a2 => exact ⟨by omega, no a2⟩
    | l1 a1 a2 => omega
    | l14 a1 a2 a3 => omega
    | l16 a1 a2 a3 a4 a5 => omega
  · cases hT with
    | e2 a1 a2 => exact ⟨by omega, no a1.l⟩
    | e3 a1 a2 => exact ⟨by omega, no a1.l⟩
    | e4 a1 a2 => exact ⟨by omega, no a1.l⟩
    | e5 a1 a2 => exact ⟨by omega, no a1.l⟩
    | e6 a1 a2 => exact ⟨by omega, no a1.l⟩
    | e7 a1 a2 => exact ⟨by omega, no a1.l⟩
    | e8 a1 a2 => exact ⟨by omega, no a1.l⟩
    | e9 a1 a2 => exact ⟨by omega, no a1.l⟩
    | l3 a1 a2 a3 => omega
    | l2 a1 a2 a3 => omega
    | l4 a1 a2 a3 => omega
    | l10 x R a1 a2 a3 => omega
    | l11 x R a1 a2 a3 => omega
    | l12 x a1 a2 a3 => omega
    | l13 x a1 a2 a3 => omega
end Den

/- GateRaces: the rounds. -/
set_option maxRecDepth 100000
set_option maxHeartbeats 1000000
set_option linter.unusedSimpArgs false
set_option linter.unusedVariables false
namespace Den
open Go Go.Proofs

def rkS (V : Int → Vs) : Nat → Nat
  | 0 => 0
  | n + 1 => rkS V n + rkV (V n)
theorem rkS_ge {V : Int → Vs} {j : Nat} (v : Vs) : ∀ (n : Nat), n ≤ j → rkS (upV V j v) n = rkS V n
  | 0, _ => rfl
  | n + 1, h => by
    simp only [rkS]
    rw [rkS_ge (j := j) v n (by omega), upV_ne V v (show ((n : Nat) : Int) ≠ (j : Int) by omega)]
theorem rkS_up {V : Int → Vs} {j : Nat} (v : Vs) : ∀ (n : Nat), j < n → rkS (upV V j v) n + rkV (V j) = rkS V n + rkV v
  | 0, h => by omega
  | n + 1, h => by
    simp only [rkS]
    by_cases hj : j = n
    · subst hj
      rw [rkS_ge v j (Nat.le_refl _), upV_self]; omega
    · have := rkS_up (V := V) (j := j) v n (by omega)
      rw [upV_ne V v (show ((n : Nat) : Int) ≠ (j : Int) by omega)]; omega
structure SR (O : Mo) (kl km kb : Nat) (W : List Int) (t mo : Int) (av : AV) (A : List Nat) (V : Int → Vs) : Prop where
  M : MemW O km kb W
  R : RR (16 + 128 * 1) t mo W V
  L : O[kl]? = some (.arr [.int .i64 1, .int .i64 t])
  G : GrR O av A
  n : (A.length : Int) = t
  vo : ∀ (j : Nat) (kv : Nat), A[j]? = some kv → VO O (16 + 128 * 1) t j kv (V j)
section
variable {O : Mo} {kl km kb : Nat} {W : List Int} {t mo : Int} {av : AV} {A : List Nat} {V : Int → Vs}
theorem SR.step (h : SR O kl km kb W t mo av A V) {j kv : Nat} (hj : A[j]? = some kv) : ∃ O' W' v' w, vstepS [.ref 0 kv 0, .ref 0 km 0] O = some (.tup [.bool w, .bool false], O') ∧ visP (16 + 128 * 1) t j (V j) W = some (v', W', w) ∧ SR O' kl km kb W' t mo av A (upV V j v') := by
  have hl := (List.getElem?_eq_some_iff.1 hj).1
  have hn := h.n
  obtain ⟨v', W', w, e, g⟩ := rr_step (i := j) (by omega) h.R (by omega) (by omega)
  obtain ⟨z1, z2⟩ := rr_nz (i := j) h.R (by omega) (by omega)
  obtain ⟨O', e2, M2, hv, kp⟩ := vstep_ok h.M (h.vo j kv hj) z1 z2 e
  refine ⟨O', W', v', w, e2, e, M2, g, kp.lay _ _ _ h.L, kp.ref _ _ h.G, hn, fun i k hi => ?_⟩
  by_cases hij : i = j
  · subst hij
    rw [hj] at hi; cases hi
    rw [upV_self]; exact hv
  · rw [upV_ne _ _ (by omega)]
    exact kp.oth _ _ _ (by omega) (h.vo i k hi)
theorem cntV_le (V : Int → Vs) : ∀ n, cntV V n ≤ n
  | 0 => Nat.le_refl _
  | n + 1 => by
    have := cntV_le V n
    simp only [cntV]; split <;> omega
theorem crowdG_ok (ht : t ≤ 17) (h : SR O kl km kb W t mo av A V) : ∀ (m : Nat) (i : Nat), i ≤ A.length → A.length < i + m → crowdG av m (cntV V i : Int) i O = some (.int .i64 (cntV V A.length : Int), O) := by
  intro m
  induction m with
  | zero => intro i h0 h1; omega
  | succ m ih =>
    intro i h0 h1
    have hn := h.n
    have c1 : A.length ≤ 1000 := by omega
    by_cases hi : (i : Int) < (A.length : Int)
    · have hil : i < A.length := by omega
      have hj : A[i]? = some A[i] := List.getElem?_eq_getElem hil
      obtain ⟨ke, kx, kae, kal, hv⟩ := h.vo i _ hj
      obtain ⟨z1, z2⟩ := rr_nz (i := i) h.R (by omega) (by omega)
      obtain ⟨kne, hE⟩ := hv.E
      have dE := done_enter (hE.ge h.M) z1
      have hC := hv.C
      have c2 : (0 : Int) ≤ i := by omega
      have hcl := cntV_le V i
      have c3 : (0 : Int) ≤ (cntV V i : Int) ∧ (cntV V i : Int) ≤ 1000 := by omega
      have ih' := ih (i + 1) (by omega) (by omega)
      have t1 : ((i : Int)).toNat = i := by omega
      by_cases e16 : (V i).e.st = 16
      · simp only [e16, decide_true] at dE
        by_cases hs : 0 < (V i).s
        · have hc : ((cntV V (i + 1) : Nat) : Int) = (cntV V i : Int) + 1 := by simp [cntV, e16, hs]
          rw [hc, show ((i + 1 : Nat) : Int) = (i : Int) + 1 by omega] at ih'
          simp only [crowdG, h.G.rd, if_pos c1, if_pos hi, if_pos c2, if_pos c3, t1, hj, hC, dE, if_pos hs, ih']
        · have hc : ((cntV V (i + 1) : Nat) : Int) = (cntV V i : Int) := by simp [cntV, hs]
          rw [hc, show ((i + 1 : Nat) : Int) = (i : Int) + 1 by omega] at ih'
          simp only [crowdG, h.G.rd, if_pos c1, if_pos hi, if_pos c2, if_pos c3, t1, hj, hC, dE, if_neg hs, ih']
      · simp only [e16, decide_false] at dE
        have hc : ((cntV V (i + 1) : Nat) : Int) = (cntV V i : Int) := by simp [cntV, e16]
        rw [hc, show ((i + 1 : Nat) : Int) = (i : Int) + 1 by omega] at ih'
        simp only [crowdG, h.G.rd, if_pos c1, if_pos hi, if_pos c2, if_pos c3, t1, hj, hC, dE, ih']
    · have : i = A.length := by omega
      subst this
      simp only [crowdG, h.G.rd, if_pos c1, if_neg hi]
theorem crowd_ok (ht : t ≤ 17) (h : SR O kl km kb W t mo av A V) : ∃ c : Int, crowdS [av] O = some (.int .i64 c, O) ∧ ¬ mo < c := by
  have hn := h.n
  have := crowdG_ok ht h 1002 0 (by omega) (by omega)
  refine ⟨_, this, ?_⟩
  have := rr_crowd h.R A.length (by omega)
  omega
end
theorem raPick_ok {kl km kb : Nat} {mo rd t : Int} {pv av : AV} {A : List Nat} {pl : List Int} {K : Int → Mo → Option (AV × Mo)} (ht : 1 ≤ t ∧ t ≤ 17) (hpl : pl.length ≤ 60) (hpr : ∀ x ∈ pl, 0 ≤ x ∧ x ≤ 255) (hpv : ∀ O, rd8 O pv = some pl) :
    ∀ (m : Nat) (k : Int) (O : Mo) (W : List Int) (V : Int → Vs), 0 ≤ k → k ≤ pl.length → (pl.length : Int) < k + m → SR O kl km kb W t mo av A V →
    ∃ O' W' V', raPick kl km mo pv av rd K m k O = raAll kl km mo pv av rd K 1002 false false 0 O' ∧ SR O' kl km kb W' t mo av A V' ∧ rkS V' A.length ≤ rkS V A.length := by
  intro m
  induction m with
  | zero => intro k O W V h0 h1 h2; omega
  | succ m ih =>
    intro k O W V h0 h1 h2 H
    have hn := H.n
    have c1 : pl.length ≤ 1000 := by omega
    by_cases hk : k < (pl.length : Int)
    · obtain ⟨x, hx⟩ := get_of_lt (W := pl) (i := k.toNat) (by omega)
      have hxr := hpr x (List.mem_of_getElem? hx)
      have c2 : A.length ≤ 1000 := by omega
      have c3 : 0 < (A.length : Int) := by omega
      have t0 := Int.emod_nonneg x (show (A.length : Int) ≠ 0 by omega)
      have t1 := Int.emod_lt_of_pos x c3
      have c4 : 0 ≤ x % (A.length : Int) ∧ x % (A.length : Int) < (A.length : Int) := ⟨t0, t1⟩
      have hj : A[(x % (A.length : Int)).toNat]? = some (A[(x % (A.length : Int)).toNat]'(by omega)) := List.getElem?_eq_getElem (by omega)
      obtain ⟨O1, W1, v1, w1, e1, e2, H1⟩ := H.step hj
      obtain ⟨c, e3, hc⟩ := crowd_ok ht.2 H1
      obtain ⟨O', W', V', e4, H', hr⟩ := ih (k + 1) O1 W1 _ (by omega) (by omega) (by omega) H1
      have r := visP_rk e2
      have ru := rkS_up (V := V) v1 A.length (show (x % (A.length : Int)).toNat < A.length by omega)
      refine ⟨O', W', V', by simp only [raPick, hpv, if_pos c1, if_pos hk, if_pos h0, hx, if_pos hxr, H.G.rd, if_pos c2, if_pos c3, if_pos c4, hj, e1, e3, if_neg hc, e4], H', ?_⟩
      have : rkV v1 ≤ rkV (V ((x % (A.length : Int)).toNat : Int)) := by
        cases w1 with
        | true => rw [(r.1 rfl).1]; exact Nat.le_refl _
        | false =>
          rcases r.2 rfl with h | ⟨h, _⟩
          · omega
          · rw [h]; exact Nat.le_refl _
      omega
    · exact ⟨O, W, V, by simp only [raPick, hpv, if_pos c1, if_neg hk], H, Nat.le_refl _⟩
theorem raAll_ok {kl km kb : Nat} {mo rd t : Int} {pv av : AV} {A : List Nat} {K : Int → Mo → Option (AV × Mo)} (ht : 1 ≤ t ∧ t ≤ 17) (r0 : Nat) :
    ∀ (m : Nat) (op mv : Bool) (k : Nat) (O : Mo) (W : List Int) (V : Int → Vs), k ≤ A.length → A.length < k + m → SR O kl km kb W t mo av A V →
    (mv = true → op = true ∧ rkS V A.length < r0) → (mv = false → rkS V A.length ≤ r0 ∧ ∀ j : Nat, j < k → (V j).l.st ≠ 16 → ∃ v' W', visP (16 + 128 * 1) t j (V j) W = some (v', W', true)) →
    (op = true → mv = false → ∃ j : Int, 0 ≤ j ∧ j < t ∧ (V j).l.st ≠ 16) → (op = false → ∀ j : Nat, j < k → (V j).l.st = 16) →
    (∃ O', raAll kl km mo pv av rd K m op mv k O = some (.bool true, O')) ∨ ∃ O' W' V', raAll kl km mo pv av rd K m op mv k O = K (rd + 1) O' ∧ SR O' kl km kb W' t mo av A V' ∧ rkS V' A.length < r0 := by
  intro m
  induction m with
  | zero => intro op mv k O W V h0 h1; omega
  | succ m ih =>
    intro op mv k O W V h0 h1 H i1 i2 i3 i4
    have hn := H.n
    have c1 : A.length ≤ 1000 := by omega
    by_cases hk : (k : Int) < (A.length : Int)
    · have hkl : k < A.length := by omega
      have hj : A[k]? = some A[k] := List.getElem?_eq_getElem hkl
      have c2 : (0 : Int) ≤ k := by omega
      have t1 : ((k : Int)).toNat = k := by omega
      obtain ⟨ke, kx, kae, kal, hv⟩ := H.vo k _ hj
      obtain ⟨z1, z2⟩ := rr_nz (i := k) H.R (by omega) (by omega)
      obtain ⟨knl, hL⟩ := hv.L
      have dL := done_leave (hL.ge H.M) z2
      have hC := hv.C
      by_cases l16 : (V k).l.st = 16
      · simp only [l16, decide_true] at dL
        have ih' := ih op mv (k + 1) O W V (by omega) (by omega) H i1 (fun hm => ⟨(i2 hm).1, fun j hj hne => by
          by_cases hjk : j = k
          · subst hjk; exact absurd l16 hne
          · exact (i2 hm).2 j (by omega) hne⟩) i3 (fun ho j hj => by
          by_cases hjk : j = k
          · subst hjk; exact l16
          · exact i4 ho j (by omega))
        rw [show ((k + 1 : Nat) : Int) = (k : Int) + 1 by omega] at ih'
        have e : raAll kl km mo pv av rd K (m + 1) op mv k O = raAll kl km mo pv av rd K m op mv ((k : Int) + 1) O := by
          conv => lhs; unfold raAll
          simp only [H.G.rd, if_pos c1, if_pos hk, if_pos c2, t1, hj, hC, dL]
        rw [e]; exact ih'
      · simp only [l16, decide_false] at dL
        obtain ⟨O1, W1, v1, w1, e1, e2, H1⟩ := H.step hj
        obtain ⟨c, e3, hc⟩ := crowd_ok ht.2 H1
        have r := visP_rk e2
        have ru := rkS_up (V := V) v1 A.length hkl
        have e : raAll kl km mo pv av rd K (m + 1) op mv k O = (match mv with
            | true => raAll kl km mo pv av rd K m true true ((k : Int) + 1) O1
            | false => raAll kl km mo pv av rd K m true (!w1) ((k : Int) + 1) O1) := by
          conv => lhs; unfold raAll
          simp only [H.G.rd, if_pos c1, if_pos hk, if_pos c2, t1, hj, hC, dL, e1, e3, if_neg hc]
          cases mv <;> rfl
        rw [e]
        cases mv with
        | true =>
          have ih' := ih true true (k + 1) O1 W1 _ (by omega) (by omega) H1 (fun _ => ⟨rfl, by
            have h5 := (i1 rfl).2
            have : rkV v1 ≤ rkV (V k) := by
              cases w1 with
              | true => rw [(r.1 rfl).1]; exact Nat.le_refl _
              | false =>
                rcases r.2 rfl with h | ⟨h, _⟩
                · omega
                · rw [h]; exact Nat.le_refl _
            omega⟩) (by simp) (by simp) (by simp)
          rw [show ((k + 1 : Nat) : Int) = (k : Int) + 1 by omega] at ih'
          exact ih'
        | false =>
          obtain ⟨h5, h6⟩ := i2 rfl
          cases w1 with
          | false =>
            have hlt : rkV v1 < rkV (V k) := by
              rcases r.2 rfl with h | ⟨_, _, h⟩
              · exact h
              · exact absurd h l16
            have ih' := ih true true (k + 1) O1 W1 _ (by omega) (by omega) H1 (fun _ => ⟨rfl, by omega⟩) (by simp) (by simp) (by simp)
            rw [show ((k + 1 : Nat) : Int) = (k : Int) + 1 by omega] at ih'
            exact ih'
          | true =>
            obtain ⟨e5, e6⟩ := r.1 rfl
            subst e5 e6
            rw [upV_same] at H1
            have ih' := ih true false (k + 1) O1 _ V (by omega) (by omega) H1 (by simp) (fun _ => ⟨h5, fun j hj hne => by
              by_cases hjk : j = k
              · subst hjk; exact ⟨_, _, e2⟩
              · exact h6 j (by omega) hne⟩) (fun _ _ => ⟨k, by omega, by omega, l16⟩) (by simp)
            rw [show ((k + 1 : Nat) : Int) = (k : Int) + 1 by omega] at ih'
            exact ih'
    · have hkA : k = A.length := by omega
      cases op with
      | true =>
        cases mv with
        | true => exact Or.inr ⟨O, W, V, by conv => { lhs; unfold raAll }; simp only [H.G.rd, if_pos c1, if_neg hk], H, (i1 rfl).2⟩
        | false =>
          exfalso
          obtain ⟨i, j0, j1, j2, j3⟩ := rr_live (by omega) H.R (i3 rfl rfl)
          obtain ⟨v', W', e⟩ := (i2 rfl).2 i.toNat (by omega) (by rw [show ((i.toNat : Nat) : Int) = i by omega]; exact j2)
          rw [show ((i.toNat : Nat) : Int) = i by omega] at e
          have := j3 _ _ _ e
          cases this
      | false =>
        cases mv with
        | true => have := (i1 rfl).1; cases this
        | false =>
          have hd := i4 rfl
          have g := rr_end H.R (fun i j0 j1 => by
            have := hd i.toNat (by omega)
            rwa [show ((i.toNat : Nat) : Int) = i by omega] at this)
          obtain ⟨O', e, _⟩ := looks_ok (p := 1) (v := 0) (qv := .nils) H.M g (by omega) ht (by omega) (by simp; omega) (fun O' _ => rfl)
          exact Or.inl ⟨O', by conv => { lhs; unfold raAll }; simp only [H.G.rd, if_pos c1, if_neg hk, H.L, e, known31S]⟩
theorem raRnd_ok {kl km kb : Nat} {mo t : Int} {pv av : AV} {A : List Nat} {pl : List Int} (ht : 1 ≤ t ∧ t ≤ 17) (hpl : pl.length ≤ 60) (hpr : ∀ x ∈ pl, 0 ≤ x ∧ x ≤ 255) (hpv : ∀ O, rd8 O pv = some pl) :
    ∀ (m : Nat) (rd : Nat) (O : Mo) (W : List Int) (V : Int → Vs), rkS V A.length + rd < 3000 → rkS V A.length < m → SR O kl km kb W t mo av A V →
    ∃ O', raRnd kl km mo pv av m rd O = some (.bool true, O') := by
  intro m
  induction m with
  | zero => intro rd O W V h0 h1; omega
  | succ m ih =>
    intro rd O W V h0 h1 H
    have c1 : (rd : Int) < 3000 := by omega
    have c2 : (0 : Int) ≤ rd := by omega
    obtain ⟨O1, W1, V1, e1, H1, r1⟩ := raPick_ok (rd := rd) (K := fun rd O => raRnd kl km mo pv av m rd O) ht hpl hpr hpv 1002 0 O W V (by omega) (by omega) (by omega) H
    have hn := H.n
    rcases raAll_ok (pv := pv) (rd := rd) (K := fun rd O => raRnd kl km mo pv av m rd O) ht (rkS V1 A.length) 1002 false false 0 O1 W1 V1 (by omega) (by omega) H1 (by simp) (fun _ => ⟨Nat.le_refl _, fun j hj => by omega⟩) (by simp) (fun _ j hj => by omega) with ⟨O', e⟩ | ⟨O2, W2, V2, e, H2, r2⟩
    · exact ⟨O', by simp only [raRnd, if_pos c1, if_pos c2, e1]; exact e⟩
    · obtain ⟨O', e3⟩ := ih (rd + 1) O2 W2 V2 (by omega) (by omega) H2
      refine ⟨O', ?_⟩
      simp only [raRnd, if_pos c1, if_pos c2, e1]
      rw [show ((rd + 1 : Nat) : Int) = (rd : Int) + 1 by omega] at e3
      exact e.trans e3
end Den

/- GateRaces: the beginning, the law. -/
set_option maxRecDepth 100000
set_option maxHeartbeats 1000000
set_option linter.unusedSimpArgs false
set_option linter.unusedVariables false
namespace Den
open Go Go.Proofs

theorem VO.keep {O O' : Mo} {b t i : Int} {kv : Nat} {v : Vs} {l : List Nat} (h : VO O b t i kv v) (g : Ag O O' l) (hn : noArr O l) : VO O' b t i kv v := by
  obtain ⟨ke, kl, kae, kal, h⟩ := h
  obtain ⟨kn1, hE⟩ := h.E
  obtain ⟨kn2, hL⟩ := h.L
  exact ⟨ke, kl, kae, kal, g.get h.C (fun hx => hn _ hx _ h.C), ⟨kn1, hE.keep g hn⟩, ⟨kn2, hL.keep g hn⟩, h.n1, h.n2, h.s⟩
/-- The visits at their beginning. -/
def vis0 (mo : Int) (ss : List Int) (i : Int) : Vs := ⟨gp0 mo, (ss[i.toNat]?.getD 0) % 50, gp0 0⟩
theorem rkS_0 {mo : Int} {ss : List Int} : ∀ n, rkS (vis0 mo ss) n ≤ n * 98
  | 0 => by simp [rkS]
  | n + 1 => by
    have := rkS_0 (mo := mo) (ss := ss) n
    have h1 : rkE (gp0 mo) = 24 := rfl
    have h2 : rkF (gp0 0) = 24 := rfl
    have h3 := Int.emod_lt_of_pos (ss[((n : Nat) : Int).toNat]?.getD 0) (show (0 : Int) < 50 by omega)
    simp only [rkS, vis0, rkV, h1, h2]
    omega
section
variable {kl km kb ks : Nat} {W : List Int} {T mo : Int} {pv : AV} {ss : List Int}
theorem raIni_ok {pl : List Int} (hT : 1 ≤ T ∧ T ≤ 6) (hm : 1 ≤ mo ∧ mo ≤ 64) (hs : ss.length = 6) (hsr : ∀ x ∈ ss, 0 ≤ x ∧ x ≤ 255) (hpl : pl.length ≤ 60) (hpr : ∀ x ∈ pl, 0 ≤ x ∧ x ≤ 255) (hpv : ∀ O, rd8 O pv = some pl) (g : GI (16 + 128 * 1) T W 0 []) :
    ∀ (m : Nat) (i : Nat) (av : AV) (A : List Nat) (O : Mo), (i : Int) ≤ T → T < i + m → MemW O km kb W → O[kl]? = some (.arr [.int .i64 1, .int .i64 T]) → O[ks]? = some (.arr (ss.map (AV.int .u8))) → GrR O av A → A.length = i →
    (∀ (j : Nat) (kv : Nat), A[j]? = some kv → VO O (16 + 128 * 1) T j kv (vis0 mo ss j)) →
    ∃ O', raIni kl km ks T mo pv m i av O = some (.bool true, O') := by
  intro m
  induction m with
  | zero => intro i av A O h0 h1; omega
  | succ m ih =>
    intro i av A O h0 h1 M L X G hA hv
    by_cases hi : (i : Int) < T
    · have c1 : 0 ≤ (i : Int) ∧ (i : Int) < 6 := by omega
      have t1 : ((i : Int)).toNat = i := by omega
      obtain ⟨s, hsi⟩ := get_of_lt (W := ss) (i := i) (by omega)
      have hsx := hsr s (List.mem_of_getElem? hsi)
      have hcs : (ss.map (AV.int .u8))[i]? = some (.int .u8 s) := by rw [List.getElem?_map, hsi]; rfl
      have t0 := Int.emod_nonneg s (show (50 : Int) ≠ 0 by omega)
      have t2 := Int.emod_lt_of_pos s (show (0 : Int) < 50 by omega)
      have c2 : 0 ≤ s % 50 ∧ s % 50 ≤ 255 := by omega
      obtain ⟨O1, e1, G1, n1⟩ := newEnter_ok O 1 T i mo (by omega) (by omega) (by omega) (by omega) hm.1 hm.2
      have e1' : enter31S [.agg [.int .i64 1, .int .i64 T], .int .i64 i, .int .i64 mo] O = some (.ref 0 (O.length + 2) 0, O1) := by simp only [enter31S, e1, if_true]
      have L1 := G1.get L (by simp)
      have X1 := G1.get X (by simp)
      obtain ⟨O2, e2, G2, n2⟩ := newLeave_ok O1 1 T i (by omega) (by omega) (by omega) (by omega)
      have e2' : leave31S [.agg [.int .i64 1, .int .i64 T], .int .i64 i] O1 = some (.ref 0 (O1.length + 2) 0, O2) := by simp only [leave31S, e2, if_true]
      have X2 := G2.get X1 (by simp)
      have G3 : Ag O2 (O2 ++ [ABlk.arr [.ref 0 (O.length + 2) 0, .ref 0 (O1.length + 2) 0, .int .i64 (s % 50)]] ++ [ABlk.buf 1 [.ref 0 O2.length 0]]) [] := (Ag.app _ _ _).trans (Ag.app _ _ _)
      have G03 := (G1.trans G2).trans G3
      have A3 := G.ag G03 (by simp)
      obtain ⟨av2, O5, e5, A5, l5, a5, w5⟩ := growR_ok (x := O2.length) A3 (by omega)
      have G5 : Ag _ O5 (own av) := ⟨l5, a5⟩
      have nA5 : noArr (O2 ++ [ABlk.arr [.ref 0 (O.length + 2) 0, .ref 0 (O1.length + 2) 0, .int .i64 (s % 50)]] ++ [ABlk.buf 1 [.ref 0 O2.length 0]]) (own av) := fun x hx cs e => by rw [own_getR A3 x hx] at e; cases e
      have M3 := M.ag G03 (by simp) (by simp)
      have M5 : MemW O5 km kb W := M3.ag G5 (fun hx => nA5 _ hx _ M3.m) (fun hx => by have := own_getR A3 _ hx; rw [M3.b] at this; simp at this; exact refs_wds M3.n this.symm)
      have L3 := G03.get L (by simp)
      have X3 := G03.get X (by simp)
      have l1 := G1.1
      have hk := n1.lt
      have hvn : VO (O2 ++ [ABlk.arr [.ref 0 (O.length + 2) 0, .ref 0 (O1.length + 2) 0, .int .i64 (s % 50)]] ++ [ABlk.buf 1 [.ref 0 O2.length 0]]) (16 + 128 * 1) T i O2.length (vis0 mo ss i) := by
        refine ⟨O.length + 2, O1.length + 2, O.length + 1, O1.length + 1, ?_, ⟨O.length, (n1.keep G2 (noArr_nil _)).keep G3 (noArr_nil _)⟩, ⟨O1.length, n2.keep G3 (noArr_nil _)⟩, by omega, by omega, ?_⟩
        · have : (vis0 mo ss i).s = s % 50 := by simp [vis0, hsi]
          rw [this]
          exact app_get (app_last _ _)
        · have : (vis0 mo ss i).s = s % 50 := by simp [vis0, hsi]
          rw [this]; omega
      obtain ⟨O', e6⟩ := ih (i + 1) av2 (A ++ [O2.length]) O5 (by omega) (by omega) M5 (G5.get L3 (fun hx => nA5 _ hx _ L3)) (G5.get X3 (fun hx => nA5 _ hx _ X3)) A5 (by simp [hA]) (fun j kv hj => by
        by_cases hjl : j < A.length
        · rw [List.getElem?_append_left hjl] at hj
          exact ((hv j kv hj).keep G03 (noArr_nil _)).keep G5 nA5
        · rw [List.getElem?_append_right (by omega)] at hj
          have hj2 : j - A.length = 0 := by
            have := (List.getElem?_eq_some_iff.1 hj).1; simp at this; omega
          rw [hj2] at hj
          simp at hj
          subst hj
          have : j = i := by omega
          subst this
          exact hvn.keep G5 nA5)
      refine ⟨O', ?_⟩
      rw [show ((i + 1 : Nat) : Int) = (i : Int) + 1 by omega] at e6
      simp only [raIni, if_pos hi, if_pos c1, L, X, t1, hcs, if_pos hsx, if_pos c2, e1', raI1, L1, X1, if_true, e2', X2, e5, e6]
    · have hiT : (i : Int) = T := by omega
      have R := rr_init (V := vis0 mo ss) (by omega) g hm (fun j _ _ => ⟨rfl, rfl, Int.emod_nonneg _ (by omega)⟩)
      have hrk := rkS_0 (mo := mo) (ss := ss) A.length
      obtain ⟨O', e⟩ := raRnd_ok (kl := kl) (km := km) (kb := kb) (pv := pv) (av := av) (A := A) (t := T) (by omega) hpl hpr hpv 3002 0 O W (vis0 mo ss) (by omega) (by omega) ⟨M, R, L, G, by omega, hv⟩
      refine ⟨O', ?_⟩
      simp only [raIni, if_neg hi]
      exact e
end
theorem gracesS_true (T mo s0 s1 s2 s3 s4 s5 : Int) (pv : AV) (pl : List Int) (hT : 0 ≤ T ∧ T ≤ 255) (hm : 0 ≤ mo ∧ mo ≤ 255) (hs : ∀ x ∈ [s0, s1, s2, s3, s4, s5], 0 ≤ x ∧ x ≤ 255) (hpr : ∀ x ∈ pl, 0 ≤ x ∧ x ≤ 255) (hpv : ∀ O, rd8 O pv = some pl) :
    ∃ O', gracesS [.int .u8 T, .int .u8 mo, .agg [.int .u8 s0, .int .u8 s1, .int .u8 s2, .int .u8 s3, .int .u8 s4, .int .u8 s5], pv] [] = some (.bool true, O') := by
  have c0 : 0 ≤ T ∧ T ≤ 255 ∧ 0 ≤ mo ∧ mo ≤ 255 := by omega
  by_cases c1 : T < 1
  · exact ⟨_, by simp only [gracesS, if_pos c0, hpv, if_pos c1, grK, known31S]; rfl⟩
  by_cases c2 : 6 < T
  · exact ⟨_, by simp only [gracesS, if_pos c0, hpv, if_neg c1, if_pos c2, grK, known31S]; rfl⟩
  by_cases c3 : mo < 1
  · exact ⟨_, by simp only [gracesS, if_pos c0, hpv, if_neg c1, if_neg c2, if_pos c3, grK, known31S]; rfl⟩
  by_cases c4 : 6 < mo
  · exact ⟨_, by simp only [gracesS, if_pos c0, hpv, if_neg c1, if_neg c2, if_neg c3, if_pos c4, grK, known31S]; rfl⟩
  by_cases c5 : 60 < (pl.length : Int)
  · exact ⟨_, by simp only [gracesS, if_pos c0, hpv, if_neg c1, if_neg c2, if_neg c3, if_neg c4, if_pos c5, grK, known31S]; rfl⟩
  obtain ⟨km, kb, O1, W, e1, M1, w1, G1, L1, L2⟩ := format_ok ([] ++ [ABlk.arr [.int .u8 s0, .int .u8 s1, .int .u8 s2, .int .u8 s3, .int .u8 s4, .int .u8 s5]] ++ [ABlk.arr [.int .i64 1, .int .i64 T]]) 1 T (by omega) (by omega)
  have hX : O1[0]? = some (.arr ([s0, s1, s2, s3, s4, s5].map (AV.int .u8))) := G1.get (by rfl) (by simp)
  have hL : O1[1]? = some (.arr [.int .i64 1, .int .i64 T]) := G1.get (by rfl) (by simp)
  have g : GI (16 + 128 * 1) T W 0 [] := by
    have D := fmt_wd (p := 1) (by omega) (by omega) w1
    refine ⟨D, ?_, ?_, ?_, trivial, fun q hq => by simp at hq, List.nodup_nil, fun q hq => by simp at hq⟩
    · rw [w1.get 13 (by omega), fmtG_mid (by omega) (by omega)]
    · rw [w1.get 14 (by omega), fmtG_mid (by omega) (by omega)]; rfl
    · rw [w1.get 15 (by omega), fmtG_mid (by omega) (by omega)]; rfl
  obtain ⟨O', e2⟩ := raIni_ok (kl := 1) (km := km) (kb := kb) (ks := 0) (W := W) (T := T) (mo := mo) (pv := pv) (ss := [s0, s1, s2, s3, s4, s5]) (pl := pl) (by omega) (by omega) rfl hs (by omega) hpr hpv g 50 0 .nils [] O1 (by omega) (by omega) M1 hL hX (Or.inl ⟨rfl, rfl⟩) rfl (fun j kv hj => by simp at hj)
  refine ⟨O', ?_⟩
  simp only [gracesS, if_pos c0, hpv, if_neg c1, if_neg c2, if_neg c3, if_neg c4, if_neg c5, e1, if_true]
  exact e2
theorem shp_bytes {cs : List AV} (h : Shp (.slice (.int .u8)) cs) : ∃ (v : AV) (l : List Int), cs = [v] ∧ (∀ x ∈ l, 0 ≤ x ∧ x ≤ 255) ∧ ∀ O, rd8 O v = some l := by
  rcases h with rfl | ⟨L, rfl, _, hL⟩
  · exact ⟨.nils, [], rfl, fun x hx => by simp at hx, fun O => rfl⟩
  · have : ∀ L : List (List AV), (∀ x ∈ L, Shp (.int .u8) x) → ∃ l : List Int, L.flatten = enc8 l ∧ l.length = L.length ∧ ∀ x ∈ l, 0 ≤ x ∧ x ≤ 255 := by
      intro L
      induction L with
      | nil => intro _; exact ⟨[], rfl, rfl, fun x hx => by simp at hx⟩
      | cons x L ih =>
        intro hx
        obtain ⟨l, e, hl, hr⟩ := ih (fun y hy => hx y (by simp [hy]))
        obtain ⟨n, rfl, w⟩ := hx x (by simp)
        refine ⟨n :: l, by rw [List.flatten_cons, e]; rfl, by simp [hl], fun y hy => ?_⟩
        simp only [List.mem_cons] at hy
        rcases hy with rfl | hy
        · simp [Lit.wf, IntKind.min, IntKind.max, IntKind.signed, IntKind.bits] at w; omega
        · exact hr y hy
    obtain ⟨l, e, hl, hr⟩ := this L hL
    exact ⟨_, l, rfl, hr, fun O => by rw [e, ← hl]; exact rd8_isl O l⟩
theorem u8_rng {x : Int} (w : (Lit.int .u8 x).wf = true) : 0 ≤ x ∧ x ≤ 255 := by
  simp [Lit.wf, IntKind.min, IntKind.max, IntKind.signed, IntKind.bits] at w; omega
abbrev ty6 : Ty := .cat (.int .u8) (.cat (.int .u8) (.cat (.int .u8) (.cat (.int .u8) (.cat (.int .u8) (.cat (.int .u8) .unit)))))
/-- The law. -/
theorem gateRaces_law (a0 a1 a2 a3 : List AV) (s0 : Shp (.int .u8) a0) (s1 : Shp (.int .u8) a1) (s2 : Shp ty6 a2) (s3 : Shp (.slice (.int .u8)) a3) :
    ∃ O' S', CallOk Tryz.prog 4 [parV (.int .u8) a0, parV (.int .u8) a1, parV ty6 a2, parV (.slice (.int .u8)) a3] [] [] (.bool true) O' S' := by
  obtain ⟨x, rfl, w0⟩ := s0
  obtain ⟨y, rfl, w1⟩ := s1
  obtain ⟨c0, d0, rfl, ⟨x0, rfl, v0⟩, c1, d1, rfl, ⟨x1, rfl, v1⟩, c2, d2, rfl, ⟨x2, rfl, v2⟩, c3, d3, rfl, ⟨x3, rfl, v3⟩, c4, d4, rfl, ⟨x4, rfl, v4⟩, c5, d5, rfl, ⟨x5, rfl, v5⟩, rfl⟩ := s2
  obtain ⟨v, l, rfl, hr, hv⟩ := shp_bytes s3
  obtain ⟨O', h⟩ := gracesS_true x y x0 x1 x2 x3 x4 x5 v l (u8_rng w0) (u8_rng w1) (fun z hz => by
    simp only [List.mem_cons, List.not_mem_nil, or_false] at hz
    rcases hz with rfl | rfl | rfl | rfl | rfl | rfl
    · exact u8_rng v0
    · exact u8_rng v1
    · exact u8_rng v2
    · exact u8_rng v3
    · exact u8_rng v4
    · exact u8_rng v5) hr hv
  exact ⟨O', [], gracesS_ok _ [] _ _ h []⟩
end Den
