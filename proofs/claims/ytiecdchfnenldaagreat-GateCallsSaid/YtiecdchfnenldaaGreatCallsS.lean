/- GateHolds: the answer is yes. -/
import Derived.Test.YtiecdchfnenldaaGreatDenGR
import Derived.Test.YtiecdchfnenldaaGreatErrS
import Derived.Test.YtiecdchfnenldaaGreatDenArgs
import Derived.Test.YtiecdchfnenldaaGreatKnownS
import Derived.Test.YtiecdchfnenldaaGreatCodeW
import Derived.Test.YtiecdchfnenldaaGreatMemC
set_option maxRecDepth 100000
set_option maxHeartbeats 1000000
set_option linter.unusedSimpArgs false
set_option linter.unusedVariables false
namespace Den
open Go Go.Proofs

/-- A program that waits. -/
def wst (l mo : Int) : GP := ⟨15, relT, l, true, mo, 2, 0, true⟩
def Pw (O : Mo) (k : Nat) (b t th mo : Int) : Prop := ∃ ka kn l, Gn O k ka kn b t th (wst l mo)
/-- The objects that are no cells of structs. -/
def noArr (O : Mo) (l : List Nat) : Prop := ∀ x ∈ l, ∀ cs, O[x]? ≠ some (.arr cs)
theorem Gn.keep {O O' : Mo} {k ka kn : Nat} {b t th : Int} {p : GP} {l : List Nat} (h : Gn O k ka kn b t th p) (g : Ag O O' l) (hn : noArr O l) : Gn O' k ka kn b t th p :=
  h.ag g (fun hx => hn _ hx _ h.K) (fun hx => hn _ hx _ h.A) (fun hx => hn _ hx _ h.N.o)
theorem Pw.keep {O O' : Mo} {k : Nat} {b t th mo : Int} {l : List Nat} (h : Pw O k b t th mo) (g : Ag O O' l) (hn : noArr O l) : Pw O' k b t th mo := by
  obtain ⟨ka, kn, l', h⟩ := h; exact ⟨ka, kn, l', h.keep g hn⟩
theorem noArr_nil (O : Mo) : noArr O [] := fun x hx => by simp at hx
theorem noArr_kb {O : Mo} {km kb : Nat} {W : List Int} (m : MemW O km kb W) : noArr O [kb] := fun x hx cs e => by
  simp at hx; subst hx; rw [m.b] at e; cases e
/-- Another thread's program. -/
theorem Gn.other {O O' : Mo} {km kb k ka kn k2 ka2 kn2 : Nat} {W : List Int} {b t th th2 : Int} {p p2 : GP} (h : Gn O k ka kn b t th p) (h2 : Gn O k2 ka2 kn2 b t th2 p2) (m : MemW O km kb W) (hne : th ≠ th2) (g : Ag O O' [kb, ka2, k2]) : Gn O' k ka kn b t th p := by
  refine h.ag g ?_ ?_ ?_
  · have n1 : k ≠ kb := ne_get h.K m.b (by simp [gtB])
    have n2 : k ≠ ka2 := ne_get h.K h2.A (by simp [gtB, subB])
    have n3 : k ≠ k2 := ne_get h.K h2.K (by unfold gtB; intro e; simp at e; omega)
    simp [n1, n2, n3]
  · have n1 : ka ≠ kb := ne_get h.A m.b (by simp [subB])
    have n2 : ka ≠ ka2 := ne_get h.A h2.A (by unfold subB; intro e; simp at e; omega)
    have n3 : ka ≠ k2 := ne_get h.A h2.K (by simp [gtB, subB])
    simp [n1, n2, n3]
  · have n1 : kn ≠ kb := ne_get h.N.o m.b (by simp)
    have n2 : kn ≠ ka2 := ne_get h.N.o h2.A (by simp [subB])
    have n3 : kn ≠ k2 := ne_get h.N.o h2.K (by simp [gtB])
    simp [n1, n2, n3]
theorem own_get {O : Mo} {v : AV} {l : List Int} (h : GrI O v l) : ∀ x ∈ own v, O[x]? = some (.buf 1 (ints l)) := by
  rcases h with ⟨rfl, rfl⟩ | ⟨k, rfl, hk⟩
  · intro x hx; simp [own] at hx
  · intro x hx; simp only [own, List.mem_singleton] at hx; subst hx; exact hk
theorem own_getR {O : Mo} {v : AV} {l : List Nat} (h : GrR O v l) : ∀ x ∈ own v, O[x]? = some (.buf 1 (refs l)) := by
  rcases h with ⟨rfl, rfl⟩ | ⟨k, rfl, hk⟩
  · intro x hx; simp [own] at hx
  · intro x hx; simp only [own, List.mem_singleton] at hx; subst hx; exact hk
theorem GrI.ag {O O' : Mo} {v : AV} {l : List Int} {L : List Nat} (h : GrI O v l) (g : Ag O O' L) (hn : ∀ x ∈ own v, x ∉ L) : GrI O' v l := by
  rcases h with ⟨rfl, rfl⟩ | ⟨k, rfl, hk⟩
  · exact Or.inl ⟨rfl, rfl⟩
  · exact Or.inr ⟨k, rfl, g.get hk (hn k (by simp [own]))⟩
theorem GrR.ag {O O' : Mo} {v : AV} {l : List Nat} {L : List Nat} (h : GrR O v l) (g : Ag O O' L) (hn : ∀ x ∈ own v, x ∉ L) : GrR O' v l := by
  rcases h with ⟨rfl, rfl⟩ | ⟨k, rfl, hk⟩
  · exact Or.inl ⟨rfl, rfl⟩
  · exact Or.inr ⟨k, rfl, g.get hk (hn k (by simp [own]))⟩
theorem GrI.slLn {O : Mo} {v : AV} {l : List Int} (h : GrI O v l) : slLn v = true ∧ v ≠ .emp := by
  rcases h with ⟨rfl, rfl⟩ | ⟨k, rfl, hk⟩
  · exact ⟨rfl, by simp⟩
  · exact ⟨rfl, by simp⟩
theorem ints_wds {l W : List Int} (h : 1 ≤ W.length) : ints l ≠ wds W := by
  intro e
  cases W with
  | nil => simp at h
  | cons x W =>
    cases l with
    | nil => simp [ints, wds] at e
    | cons y l => simp [ints, wds] at e
theorem refs_wds {l : List Nat} {W : List Int} (h : 1 ≤ W.length) : refs l ≠ wds W := by
  intro e
  cases W with
  | nil => simp at h
  | cons x W =>
    cases l with
    | nil => simp [refs, wds] at e
    | cons y l => simp [refs, wds] at e
/-- The slices lie apart from a memory and a program. -/
theorem own_run {O : Mo} {km kb k ka kn : Nat} {W : List Int} {b t th : Int} {p : GP} (m : MemW O km kb W) (h : Gn O k ka kn b t th p) {v : AV} {l : List Int} (g : GrI O v l) : ∀ x ∈ own v, x ∉ [kb, ka, k] := by
  intro x hx
  have e := own_get g x hx
  have n1 : x ≠ kb := ne_get e m.b (by simp; exact ints_wds m.n)
  have n2 : x ≠ ka := ne_get e h.A (by simp [subB])
  have n3 : x ≠ k := ne_get e h.K (by simp [gtB])
  simp [n1, n2, n3]
theorem own_runR {O : Mo} {km kb k ka kn : Nat} {W : List Int} {b t th : Int} {p : GP} (m : MemW O km kb W) (h : Gn O k ka kn b t th p) {v : AV} {l : List Nat} (g : GrR O v l) : ∀ x ∈ own v, x ∉ [kb, ka, k] := by
  intro x hx
  have e := own_getR g x hx
  have n1 : x ≠ kb := ne_get e m.b (by simp; exact refs_wds m.n)
  have n2 : x ≠ ka := ne_get e h.A (by simp [subB])
  have n3 : x ≠ k := ne_get e h.K (by simp [gtB])
  simp [n1, n2, n3]
theorem own_kb {O : Mo} {km kb : Nat} {W : List Int} (m : MemW O km kb W) {v : AV} {l : List Int} (g : GrI O v l) : ∀ x ∈ own v, x ∉ [kb] := by
  intro x hx
  have n1 : x ≠ kb := ne_get (own_get g x hx) m.b (by simp; exact ints_wds m.n)
  simp [n1]
theorem own_kbR {O : Mo} {km kb : Nat} {W : List Int} (m : MemW O km kb W) {v : AV} {l : List Nat} (g : GrR O v l) : ∀ x ∈ own v, x ∉ [kb] := by
  intro x hx
  have n1 : x ≠ kb := ne_get (own_getR g x hx) m.b (by simp; exact refs_wds m.n)
  simp [n1]

/-! Whole programs -/
section
variable {km kb : Nat} {p t v mo : Int} {W : List Int} {Q : List Int} {O : Mo}
/-- A thread comes and waits. -/
theorem comes_waits (hp : 1 ≤ p ∧ p ≤ 511) (ht : 1 ≤ t ∧ t ≤ 17) (m : MemW O km kb W) (g : GI (16 + 128 * p) t W v Q) {th : Int} (h1 : 0 ≤ th) (h2 : th < t) (hn : th ∉ Q) (hc : ¬ (Q = [] ∧ v < mo)) (m1 : 1 ≤ mo) (m2 : mo ≤ 64) :
    ∃ kp O1 O2 W', enter31S [.agg [.int .i64 p, .int .i64 t], .int .i64 th, .int .i64 mo] O = some (.ref 0 kp 0, O1) ∧
      run31S [.iface 42 (.ref 0 kp 0), .ref 0 km 0, .int .i64 60] O1 = some (.tup [.bool false, .bool true], O2) ∧
      Ag O O2 [kb] ∧ MemW O2 km kb W' ∧ GI (16 + 128 * p) t W' v (Q ++ [th]) ∧ Pw O2 kp (16 + 128 * p) t th mo ∧ O.length ≤ kp ∧ W'.length = W.length := by
  obtain ⟨O1, e1, g1, n1⟩ := newEnter_ok O p t th mo hp ht h1 h2 m1 m2
  have M1 := m.ag g1 (by simp) (by simp)
  obtain ⟨l0, l1, l2, l3⟩ := lsA_rng g (by omega)
  have hlk : lkA (16 + 128 * p) Q ≠ 16 + 128 * p + th * 2 * 3 ∧ lkA (16 + 128 * p) Q ≠ 16 + 128 * p + (th * 2 + 1) * 3 + 1 := by
    unfold lkA
    by_cases hq : Q = []
    · rw [if_neg (by rw [l3 hq]; omega)]; omega
    · obtain ⟨q, _, e, r1, r2⟩ := l2 hq
      unfold rfA at e
      rw [if_pos (by omega)]; omega
  have R := enter_queue (mo := mo) g.wd h1 h2 g.ins g.fst g.lst (by
    rintro ⟨e1, e2⟩
    cases Q with
    | nil => exact hc ⟨rfl, e2⟩
    | cons q l => have := (g.rng q (by simp)).1; simp only [hdA, rfA] at e1; omega) (by omega) (by omega) l0 l1 (lkA (16 + 128 * p) Q) rfl hlk 47 false
  obtain ⟨O2, ka2, e2, v2, g2⟩ := runE_ok (most := 60) 60 0 false O1 (O.length + 1) W _ (gp0 mo) _ _ (by omega) (by omega) (n1.ge M1) R
  have a1 := g1.1
  refine ⟨O.length + 2, O1, O2, _, by simp only [enter31S, e1, if_true], run31_enter (by omega) (by simpa using e2), ⟨by have := v2.ag.1; omega, fun j hj hl => ?_⟩, g2.M, gi_queue g h1 h2 hn, ⟨ka2, O.length, lsA Q, g2.gn⟩, by omega, ?_⟩
  · rw [v2.ag.2 j (by omega) (by simp at hl ⊢; omega), g1.2 j hj (by simp)]
  · simp [queueW, lockW_len]
/-- A thread comes and goes in. -/
theorem comes_in (hp : 1 ≤ p ∧ p ≤ 511) (ht : 1 ≤ t ∧ t ≤ 17) (m : MemW O km kb W) (g : GI (16 + 128 * p) t W v []) {th : Int} (h1 : 0 ≤ th) (h2 : th < t) (v0 : 0 ≤ v) (hc : v < mo) (m1 : 1 ≤ mo) (m2 : mo ≤ 64) :
    ∃ kp O1 O2 W', enter31S [.agg [.int .i64 p, .int .i64 t], .int .i64 th, .int .i64 mo] O = some (.ref 0 kp 0, O1) ∧
      run31S [.iface 42 (.ref 0 kp 0), .ref 0 km 0, .int .i64 60] O1 = some (.tup [.bool true, .bool false], O2) ∧
      Ag O O2 [kb] ∧ MemW O2 km kb W' ∧ GI (16 + 128 * p) t W' (v + 1) [] ∧ (∃ ka kn l, Gn O2 kp ka kn (16 + 128 * p) t th ⟨16, relT, l, false, mo, 2, 0, true⟩) ∧ O.length ≤ kp ∧ W'.length = W.length := by
  obtain ⟨O1, e1, g1, n1⟩ := newEnter_ok O p t th mo hp ht h1 h2 m1 m2
  have M1 := m.ag g1 (by simp) (by simp)
  have R := enter_room (mo := mo) g.wd h1 h2 g.ins g.fst v0 hc (by omega) 52 false
  obtain ⟨O2, ka2, e2, v2, g2⟩ := runE_ok (most := 60) 60 0 false O1 (O.length + 1) W _ (gp0 mo) _ _ (by omega) (by omega) (n1.ge M1) R
  have a1 := g1.1
  refine ⟨O.length + 2, O1, O2, _, by simp only [enter31S, e1, if_true], run31_enter (by omega) (by simpa using e2), ⟨by have := v2.ag.1; omega, fun j hj hl => ?_⟩, g2.M, gi_room g h1 h2, ⟨ka2, O.length, v, g2.gn⟩, by omega, ?_⟩
  · rw [v2.ag.2 j (by omega) (by simp at hl ⊢; omega), g1.2 j hj (by simp)]
  · simp [lockW_len]
/-- A thread leaves, and nobody waits. -/
theorem leaves_out (hp : 1 ≤ p ∧ p ≤ 511) (ht : 1 ≤ t ∧ t ≤ 17) (m : MemW O km kb W) (g : GI (16 + 128 * p) t W v []) {th : Int} (h1 : 0 ≤ th) (h2 : th < t) (v0 : 1 ≤ v ∧ v ≤ 1000) :
    ∃ kp O1, leave31S [.agg [.int .i64 p, .int .i64 t], .int .i64 th] O = some (.ref 0 kp 0, O1) ∧ Ag O O1 [] ∧ ∀ O1' , Ag O1 O1' [] →
      ∃ O2 W', run31S [.iface 35 (.ref 0 kp 0), .ref 0 km 0, .int .i64 60] O1' = some (.tup [.bool true, .bool false], O2) ∧
      Ag O O2 [kb] ∧ MemW O2 km kb W' ∧ GI (16 + 128 * p) t W' (v - 1) [] ∧ W'.length = W.length ∧ leaveResS [.ref 0 kp 0] O2 = some (.int .u64 1, O2) := by
  obtain ⟨O1, e1, g1, n1⟩ := newLeave_ok O p t th hp ht h1 h2
  refine ⟨O.length + 2, O1, by simp only [leave31S, e1, if_true], g1, fun O1' g1' => ?_⟩
  have M1 := (m.ag g1 (by simp) (by simp)).ag g1' (by simp) (by simp)
  have n1' := n1.ag g1' (by simp) (by simp) (by simp)
  have R := leave_out g.wd h1 h2 g.ins g.fst v0.1 v0.2 52 false
  obtain ⟨O2, ka2, e2, v2, g2⟩ := runL_ok (most := 60) 60 0 false O1' (O.length + 1) W _ (gp0 0) _ _ (by omega) (by omega) (n1'.ge M1) R
  have a1 := g1.1
  have a2 := g1'.1
  refine ⟨O2, _, run31_leave (by omega) (by simpa using e2), ⟨by have := v2.ag.1; omega, fun j hj hl => ?_⟩, g2.M, gi_out g h1 h2, by simp [lockW_len], ?_⟩
  · rw [v2.ag.2 j (by omega) (by simp at hl ⊢; omega), g1'.2 j (by omega) (by simp), g1.2 j hj (by simp)]
  · have hK := g2.K
    unfold gtB at hK
    simp [leaveResS, loverS, hK]
/-- A thread leaves, and the first one may go in. -/
theorem leaves_next (hp : 1 ≤ p ∧ p ≤ 511) (ht : 1 ≤ t ∧ t ≤ 17) {q : Int} (m : MemW O km kb W) (g : GI (16 + 128 * p) t W v (q :: Q)) {th : Int} (h1 : 0 ≤ th) (h2 : th < t) :
    ∃ kp O1, leave31S [.agg [.int .i64 p, .int .i64 t], .int .i64 th] O = some (.ref 0 kp 0, O1) ∧ Ag O O1 [] ∧ ∀ O1' , Ag O1 O1' [] →
      ∃ O2 W', run31S [.iface 35 (.ref 0 kp 0), .ref 0 km 0, .int .i64 60] O1' = some (.tup [.bool true, .bool false], O2) ∧
      Ag O O2 [kb] ∧ MemW O2 km kb W' ∧ GI (16 + 128 * p) t W' v Q ∧ W'[wtA (16 + 128 * p) q]? = some 0 ∧ W'.length = W.length ∧ leaveResS [.ref 0 kp 0] O2 = some (.int .u64 1, O2) := by
  obtain ⟨O1, e1, g1, n1⟩ := newLeave_ok O p t th hp ht h1 h2
  refine ⟨O.length + 2, O1, by simp only [leave31S, e1, if_true], g1, fun O1' g1' => ?_⟩
  have M1 := (m.ag g1 (by simp) (by simp)).ag g1' (by simp) (by simp)
  have n1' := n1.ag g1' (by simp) (by simp) (by simp)
  have rq := g.rng q (by simp)
  have hg : W[(16 + 128 * p + (rfA q - 1) * 3).toNat]? = some (hdA Q) := by
    have := hd_link g
    unfold nxA at this
    unfold rfA
    rw [show 16 + 128 * p + (q * 2 + 1 + 1 - 1) * 3 = 16 + 128 * p + (q * 2 + 1) * 3 by omega]
    exact this
  have R := leave_next g.wd h1 h2 g.fst (by simp only [hdA, rfA]; omega) (by simp only [hdA, rfA]; omega) (by simp only [hdA, rfA]; omega) hg 50 false
  obtain ⟨O2, ka2, e2, v2, g2⟩ := runL_ok (most := 60) 60 0 false O1' (O.length + 1) W _ (gp0 0) _ _ (by omega) (by omega) (n1'.ge M1) R
  have a1 := g1.1
  have a2 := g1'.1
  obtain ⟨gi, hw⟩ := gi_next g h1 h2
  refine ⟨O2, _, run31_leave (by omega) (by simpa using e2), ⟨by have := v2.ag.1; omega, fun j hj hl => ?_⟩, g2.M, gi, hw, ?_, ?_⟩
  · rw [v2.ag.2 j (by omega) (by simp at hl ⊢; omega), g1'.2 j (by omega) (by simp), g1.2 j hj (by simp)]
  · unfold nextW; split <;> simp [lockW_len]
  · have hK := g2.K
    unfold gtB at hK
    simp [leaveResS, loverS, hK]
/-- Who waits goes on waiting. -/
theorem stays {b th most : Int} {k : Nat} (m : MemW O km kb W) (h : Pw O k b t th mo) (hw : W[wtA b th]? = some 1) (hm : 1 ≤ most ∧ most ≤ 1000) :
    ∃ O' ka kn l, run31S [.iface 42 (.ref 0 k 0), .ref 0 km 0, .int .i64 most] O = some (.tup [.bool false, .bool true], O') ∧ Gn O k ka kn b t th (wst l mo) ∧ Ag O O' [kb, ka, k] ∧ MemW O' km kb W ∧ Pw O' k b t th mo := by
  obtain ⟨ka, kn, l, h⟩ := h
  have R := wait_stay (b := b) (t := t) (th := th) (mo := mo) (v := l) (pc := 2) (ot := 0) hw (most.toNat - 1) false
  rw [show most.toNat - 1 + 1 = most.toNat by omega] at R
  obtain ⟨O2, ka2, e2, v2, g2⟩ := runE_ok (most := most) most.toNat 0 false O ka W _ (wst l mo) _ _ (by omega) (by omega) (h.ge m) R
  exact ⟨O2, ka, kn, l, run31_enter (by omega) (by simpa using e2), h, v2.ag, g2.M, ⟨ka2, kn, l, g2.gn⟩⟩
/-- Who may go on goes in. -/
theorem goes {b th most : Int} {k : Nat} (m : MemW O km kb W) (h : Pw O k b t th mo) (hw : W[wtA b th]? = some 0) (hm : 1 ≤ most ∧ most ≤ 1000) :
    ∃ O' ka kn l, run31S [.iface 42 (.ref 0 k 0), .ref 0 km 0, .int .i64 most] O = some (.tup [.bool true, .bool false], O') ∧ Gn O k ka kn b t th (wst l mo) ∧ Ag O O' [kb, ka, k] ∧ MemW O' km kb W ∧
      ∃ ka2, Gn O' k ka2 kn b t th ⟨16, relT, l, true, mo, 2, 0, true⟩ := by
  obtain ⟨ka, kn, l, h⟩ := h
  have R := enter_go (b := b) (t := t) (th := th) (mo := mo) (v := l) (pc := 2) (ot := 0) hw (most.toNat - 1) false
  rw [show most.toNat - 1 + 1 = most.toNat by omega] at R
  obtain ⟨O2, ka2, e2, v2, g2⟩ := runE_ok (most := most) most.toNat 0 false O ka W _ (wst l mo) _ _ (by omega) (by omega) (h.ge m) R
  exact ⟨O2, ka, kn, l, run31_enter (by omega) (by simpa using e2), h, v2.ag, g2.M, ka2, g2.gn⟩
end
end Den

/- Contracts of the reference of layer 31. -/
set_option maxRecDepth 100000
set_option maxHeartbeats 4000000
set_option linter.unusedSimpArgs false
set_option linter.unusedVariables false
namespace Den
open Go Go.Proofs

/-- ticketlineref31.without: the loop 0 -/
def withoutG (lv : AV) (x : Int) : Nat → Int → AV → Mo → Option (AV × Mo)
  | 0, i, ov, O => none
  | m + 1, i, ov, O =>
    match rdI O lv with
    | some l =>
      if l.length ≤ 1000 then
        if i < (l.length : Int) then
          if 0 ≤ i then
            match l[i.toNat]? with
            | some y =>
              if y - x = 0 then withoutG lv x m (i + 1) ov O
              else
                match growI O ov [y] with
                | some (ov2, Oa) => withoutG lv x m (i + 1) ov2 Oa
                | _ => none
            | _ => none
          else none
        else
          match rdI O ov with
          | some _ => some (ov, O)
          | _ => none
      else none
    | _ => none
theorem withoutG_loop {S : Ms} (lv : AV) (x : Int)  : ∀ (n : Nat) (i : Int) (ov : AV) (O : Mo) (env : Env) (M : Nat) (r : AV) (O' : Mo) (h : withoutG lv x n i ov O = some (r, O')) (hM : n < M) (e0 : env 0 = lv) (e1 : env 1 = .int .i64 x) (e2 : env 5 = ov) (e3 : env 6 = .int .i64 i),
    W66x0 cfgA (tabC []) 100000 (loopN (exec cfgA (tabC []) 100000 B66x0) [] M ⟨leOf 27 env, O, S ++ [[]]⟩) = some (r, O', S) := by
  intro n
  induction n with
  | zero =>
    intro i ov O env M r O' h hM e0 e1 e2 e3
    unfold withoutG at h
    first | (cases h; done) | (dsimp only at h; cases h; done) | (split at h <;> first | (cases h; done) | (exfalso; omega))
  | succ n ih =>
    intro i ov O env M r O' h hM e0 e1 e2 e3
    obtain ⟨M, rfl⟩ : ∃ M', M = M' + 1 := ⟨M - 1, by omega⟩
    unfold withoutG at h
    repeat' (split at h)
    all_goals first | (cases h; done) | (dsimp only at h; cases h; done) | (exfalso; omega) | skip
    all_goals
      try dsimp only at h
      try simp only [acc, accZ, errA] at *
      first
        | (simp (disch := first | decide | omega | assumption | exact isS_of (by assumption) | exact ixok_of (by assumption) (by omega) | exact slOk_of (by assumption) | exact bufOk_of (by assumption) (by omega) | exact ixok_ofR (by assumption) (by omega) | exact slOk_ofR (by assumption) | exact lenOk_of (by assumption) (by omega) | exact ixok_of8 (by assumption) (by omega) | fail) only [loop_unf, loopK_N, loopK_E, loopK_R, RAs, RBs, RCs, RDs, REs, RFs, RGs, RHs, RIs, RJs, RKs, RLs, RRt, Nat.reduceLT, Nat.reduceEqDiff, Nat.reduceAdd, Nat.reduceSub, RXa, RXb, RXc, List.drop_zero, Nat.sub_zero, RSl, RSr, RSm, *]
           refine ih _ _ _ _ _ _ _ h (by omega) ?_ ?_ ?_ ?_
           all_goals simp (disch := first | decide | omega | assumption | exact isS_of (by assumption) | exact ixok_of (by assumption) (by omega) | exact slOk_of (by assumption) | exact bufOk_of (by assumption) (by omega) | exact ixok_ofR (by assumption) (by omega) | exact slOk_ofR (by assumption) | exact lenOk_of (by assumption) (by omega) | exact ixok_of8 (by assumption) (by omega) | fail) only [RAs, RBs, RCs, RDs, REs, RFs, RGs, RHs, RIs, RJs, RKs, RLs, RRt, Nat.reduceLT, Nat.reduceEqDiff, Nat.reduceAdd, Nat.reduceSub, RXa, RXb, RXc, List.drop_zero, Nat.sub_zero, RSl, RSr, RSm, *])
        | (simp only [Option.some.injEq, Prod.mk.injEq] at h
           obtain ⟨rfl, rfl⟩ := h
           simp (disch := first | decide | omega | assumption | exact isS_of (by assumption) | exact ixok_of (by assumption) (by omega) | exact slOk_of (by assumption) | exact bufOk_of (by assumption) (by omega) | exact ixok_ofR (by assumption) (by omega) | exact slOk_ofR (by assumption) | exact lenOk_of (by assumption) (by omega) | exact ixok_of8 (by assumption) (by omega) | fail) only [W66x0, loop_unf, loopK_N, loopK_E, loopK_R, RAs, RBs, RCs, RDs, REs, RFs, RGs, RHs, RIs, RJs, RKs, RLs, RRt, Nat.reduceLT, Nat.reduceEqDiff, Nat.reduceAdd, Nat.reduceSub, RXa, RXb, RXc, List.drop_zero, Nat.sub_zero, RSl, RSr, RSm, *])

attribute [local irreducible] withoutG
/-- ticketlineref31.without -/
def withoutS : Sp := fun args O =>
  match args with
  | [lv, .int .i64 x] => withoutG lv x 1002 0 .nils O
  | _ => none
theorem withoutS_ok : SpOk Tryz.prog 66 withoutS := by
  intro args O r O' h S
  unfold withoutS at h
  repeat' (split at h)
  all_goals first | (cases h; done) | skip
  all_goals
    try simp only [acc, accZ, errA] at *
    first
      | (simp only [Option.some.injEq, Prod.mk.injEq] at h
         obtain ⟨rfl, rfl⟩ := h
         refine bodyA (tabC_nil _) (n := 100000) F66_code ?_
         simp (disch := first | decide | omega | assumption | exact isS_of (by assumption) | exact ixok_of (by assumption) (by omega) | exact slOk_of (by assumption) | exact bufOk_of (by assumption) (by omega) | exact ixok_ofR (by assumption) (by omega) | exact slOk_ofR (by assumption) | exact lenOk_of (by assumption) (by omega) | exact ixok_of8 (by assumption) (by omega) | fail) only [F66, RAs, RBs, RCs, RDs, REs, RFs, RGs, RHs, RIs, RJs, RKs, RLs, RRt, Nat.reduceLT, Nat.reduceEqDiff, Nat.reduceAdd, Nat.reduceSub, RXa, RXb, RXc, List.drop_zero, Nat.sub_zero, RSl, RSr, RSm, acc, accZ, errA, *])
      | (refine bodyA (tabC_nil _) (n := 100000) F66_code ?_
         simp (disch := first | decide | omega | assumption | exact isS_of (by assumption) | exact ixok_of (by assumption) (by omega) | exact slOk_of (by assumption) | exact bufOk_of (by assumption) (by omega) | exact ixok_ofR (by assumption) (by omega) | exact slOk_ofR (by assumption) | exact lenOk_of (by assumption) (by omega) | exact ixok_of8 (by assumption) (by omega) | fail) only [F66, RAs, RBs, RCs, RDs, REs, RFs, RGs, RHs, RIs, RJs, RKs, RLs, RRt, Nat.reduceLT, Nat.reduceEqDiff, Nat.reduceAdd, Nat.reduceSub, RXa, RXb, RXc, List.drop_zero, Nat.sub_zero, RSl, RSr, RSm, e_loop, acc, accZ, errA, *]
         refine (fin_skip _ _ _ _ _).trans ?_
         refine withoutG_loop _ _ _ _ _ _ _ _ _ _ h (by omega) ?_ ?_ ?_ ?_
         all_goals simp (disch := first | decide | omega | assumption | exact isS_of (by assumption) | exact ixok_of (by assumption) (by omega) | exact slOk_of (by assumption) | exact bufOk_of (by assumption) (by omega) | exact ixok_ofR (by assumption) (by omega) | exact slOk_ofR (by assumption) | exact lenOk_of (by assumption) (by omega) | exact ixok_of8 (by assumption) (by omega) | fail) only [RAs, RBs, RCs, RDs, REs, RFs, RGs, RHs, RIs, RJs, RKs, RLs, RRt, Nat.reduceLT, Nat.reduceEqDiff, Nat.reduceAdd, Nat.reduceSub, RXa, RXb, RXc, List.drop_zero, Nat.sub_zero, RSl, RSr, RSm, *])

/-- ticketlineref31.Has -/
def hasS : Sp := fun args O =>
  match args with
  | [lv, .int .i64 x] =>
    match withoutS [lv, .int .i64 x] O with
    | some (w, Oa) =>
      match rdI Oa w with
      | some a =>
        match rdI Oa lv with
        | some l => if (a.length : Int) < (l.length : Int) then some (.bool true, Oa) else some (.bool false, Oa)
        | _ => none
      | _ => none
    | _ => none
  | _ => none
theorem hasS_ok : SpOk Tryz.prog 15 hasS := by
  intro args O r O' h S
  unfold hasS at h
  repeat' (split at h)
  all_goals first | (cases h; done) | skip
  all_goals
    simp only [Option.some.injEq, Prod.mk.injEq] at h
    obtain ⟨rfl, rfl⟩ := h
    refine bodyA (tabC_cons withoutS_ok (tabC_nil _)) (n := 0) F15_code ?_
    try simp only [acc, accZ, errA] at *
    simp (disch := first | decide | omega | assumption | exact isS_of (by assumption) | exact ixok_of (by assumption) (by omega) | exact slOk_of (by assumption) | exact bufOk_of (by assumption) (by omega) | exact ixok_ofR (by assumption) (by omega) | exact slOk_ofR (by assumption) | exact lenOk_of (by assumption) (by omega) | exact ixok_of8 (by assumption) (by omega) | fail) only [F15, RAs, RBs, RCs, RDs, REs, RFs, RGs, RHs, RIs, RJs, RKs, RLs, RRt, Nat.reduceLT, Nat.reduceEqDiff, Nat.reduceAdd, Nat.reduceSub, RXa, RXb, RXc, List.drop_zero, Nat.sub_zero, RSl, RSr, RSm, acc, accZ, errA, *]

/-- ticketlineref31.Gate.Leave -/
def rLeaveS : Sp := fun args O =>
  match args with
  | [.agg [iv, qv], .int .i64 x] =>
    match rdI O iv with
    | some _ =>
      match rdI O qv with
      | some _ =>
        match withoutS [iv, .int .i64 x] (O ++ [.arr [iv, qv]] ++ [.arr [.nils, .nils]]) with
        | some (w, Oa) =>
          match Oa[O.length]? with
          | some (.arr [iv1, qv1]) =>
            match rdI Oa qv1 with
            | some q =>
              match rdI Oa w with
              | some _ =>
                match lnS qv1 with
                | some n =>
                  if q.length = n then
                    if (n : Int) = 0 then
                      match Oa[(O ++ [ABlk.arr [iv, qv]]).length]? with
                      | some (.arr [c0, c1]) => some (.agg [w, .nils], Oa.set (O ++ [ABlk.arr [iv, qv]]).length (.arr [w, .nils]))
                      | _ => none
                    else
                      if 0 < n then
                        match q[Int.toNat 0]? with
                        | some y =>
                          match growI Oa w [y] with
                          | some (w2, Ob) =>
                            match Ob[O.length]? with
                            | some (.arr [iv2, qv2]) =>
                              if AV.beq qv2 qv1 = true then
                                match rdI Ob qv1 with
                                | some q2 =>
                                  if q2.length = n then
                                    if slLn qv1 = true then
                                      match growI Ob .nils ((q2.drop (Int.toNat 1)).take (n - Int.toNat 1)) with
                                      | some (w3, Oc) =>
                                        match Oc[(O ++ [ABlk.arr [iv, qv]]).length]? with
                                        | some (.arr [c0, c1]) =>
                                          match rdI Oc w2 with
                                          | some _ =>
                                            match rdI Oc w3 with
                                            | some _ => some (.agg [w2, w3], Oc.set (O ++ [ABlk.arr [iv, qv]]).length (.arr [w2, w3]))
                                            | _ => none
                                          | _ => none
                                        | _ => none
                                      | _ => none
                                    else none
                                  else none
                                | _ => none
                              else none
                            | _ => none
                          | _ => none
                        | _ => none
                      else none
                  else none
                | _ => none
              | _ => none
            | _ => none
          | _ => none
        | _ => none
      | _ => none
    | _ => none
  | _ => none
theorem rLeaveS_ok : SpOk Tryz.prog 19 rLeaveS := by
  intro args O r O' h S
  unfold rLeaveS at h
  repeat' (split at h)
  all_goals first | (cases h; done) | skip
  all_goals
    simp only [Option.some.injEq, Prod.mk.injEq] at h
    obtain ⟨rfl, rfl⟩ := h
    refine bodyA (tabC_cons withoutS_ok (tabC_nil _)) (n := 0) F19_code ?_
    try simp only [acc, accZ, errA] at *
    simp (disch := first | decide | omega | assumption | exact isS_of (by assumption) | exact ixok_of (by assumption) (by omega) | exact slOk_of (by assumption) | exact bufOk_of (by assumption) (by omega) | exact ixok_ofR (by assumption) (by omega) | exact slOk_ofR (by assumption) | exact lenOk_of (by assumption) (by omega) | exact ixok_of8 (by assumption) (by omega) | fail) only [F19, RAs, RBs, RCs, RDs, REs, RFs, RGs, RHs, RIs, RJs, RKs, RLs, RRt, Nat.reduceLT, Nat.reduceEqDiff, Nat.reduceAdd, Nat.reduceSub, RXa, RXb, RXc, List.drop_zero, Nat.sub_zero, RSl, RSr, RSm, acc, accZ, errA, *]

/-- ticketlineref31.Gate.Enter -/
def rWait (k : Nat) (iv : AV) (x : Int) (q : List Int) (k0 : Nat) (O : Mo) : Option (AV × Mo) :=
  match growI O .nils q with
  | some (w, Oa) =>
    match Oa[k0]? with
    | some (.arr [iv1, qv1]) =>
      if AV.beq iv1 iv = true then
        match growI Oa w [x] with
        | some (w2, Ob) =>
          match Ob[k0]? with
          | some (.arr [iv2, qv2]) =>
            if AV.beq iv2 iv = true then
              match rdI Ob w2 with
              | some _ =>
                match rdI Ob iv with
                | some _ =>
                  match Ob[k]? with
                  | some (.arr [c0, c1]) => some (.agg [iv, w2], Ob.set k (.arr [iv, w2]))
                  | _ => none
                | _ => none
              | _ => none
            else none
          | _ => none
        | _ => none
      else none
    | _ => none
  | _ => none
def rEnterS : Sp := fun args O =>
  match args with
  | [.agg [iv, qv], .int .i64 x, .int .i64 mo] =>
    match rdI O iv with
    | some _ =>
      match rdI O qv with
      | some _ =>
        match rdI (O ++ [.arr [iv, qv]] ++ [.arr [.nils, .nils]]) iv with
        | some l =>
          match rdI (O ++ [.arr [iv, qv]] ++ [.arr [.nils, .nils]]) qv with
          | some q =>
            if (q.length : Int) = 0 then
              if (l.length : Int) < mo then
                match growI (O ++ [.arr [iv, qv]] ++ [.arr [.nils, .nils]]) .nils l with
                | some (w, Oa) =>
                  match growI Oa w [x] with
                  | some (w2, Ob) =>
                    match rdI Ob w2 with
                    | some _ =>
                      match Ob[(O ++ [ABlk.arr [iv, qv]]).length]? with
                      | some (.arr [c0, c1]) => some (.agg [w2, .nils], Ob.set (O ++ [ABlk.arr [iv, qv]]).length (.arr [w2, .nils]))
                      | _ => none
                    | _ => none
                  | _ => none
                | _ => none
              else rWait (O ++ [ABlk.arr [iv, qv]]).length iv x q O.length (O ++ [.arr [iv, qv]] ++ [.arr [.nils, .nils]])
            else rWait (O ++ [ABlk.arr [iv, qv]]).length iv x q O.length (O ++ [.arr [iv, qv]] ++ [.arr [.nils, .nils]])
          | _ => none
        | _ => none
      | _ => none
    | _ => none
  | _ => none
theorem rEnterS_ok : SpOk Tryz.prog 21 rEnterS := by
  intro args O r O' h S
  unfold rEnterS at h
  repeat' (split at h)
  all_goals first | (cases h; done) | skip
  all_goals try unfold rWait at h
  all_goals try (repeat' (split at h))
  all_goals first | (cases h; done) | skip
  all_goals
    simp only [Option.some.injEq, Prod.mk.injEq] at h
    obtain ⟨rfl, rfl⟩ := h
    refine bodyA (tabC_nil _) (n := 0) F21_code ?_
    try simp only [acc, accZ, errA] at *
    simp (disch := first | decide | omega | assumption | exact isS_of (by assumption) | exact ixok_of (by assumption) (by omega) | exact slOk_of (by assumption) | exact bufOk_of (by assumption) (by omega) | exact ixok_ofR (by assumption) (by omega) | exact slOk_ofR (by assumption) | exact lenOk_of (by assumption) (by omega) | exact ixok_of8 (by assumption) (by omega) | fail) only [F21, RAs, RBs, RCs, RDs, REs, RFs, RGs, RHs, RIs, RJs, RKs, RLs, RRt, Nat.reduceLT, Nat.reduceEqDiff, Nat.reduceAdd, Nat.reduceSub, RXa, RXb, RXc, List.drop_zero, Nat.sub_zero, RSl, RSr, RSm, acc, accZ, errA, *]

end Den

/- GateCalls: what it computes. -/
set_option maxRecDepth 100000
set_option maxHeartbeats 4000000
set_option linter.unusedSimpArgs false
set_option linter.unusedVariables false
namespace Den
open Go Go.Proofs

/-- ticketlinelaw31.GateCalls: the loop 0 -/
def gcIn (kl km kg kw : Nat) (T mo : Int) (cv : AV) (i : Int) (K : Int → Mo → Option (AV × Mo)) : Nat → Int → Mo → Option (AV × Mo)
  | 0, k, O => none
  | m + 1, k, O =>
    match O[kg]? with
    | some (.arr [iv, qv]) =>
      match rdI O iv with
      | some l =>
        if l.length ≤ 1000 then
          if k < (l.length : Int) then
            if 0 ≤ k then
              match l[k.toNat]? with
              | some x =>
                match mapI O kw with
                | some mp =>
                  match lookI x mp with
                  | some kp =>
                    match run31S [.iface 42 (.ref 0 kp 0), .ref 0 km 0, .int .i64 60] O with
                    | some (.tup [.bool true, .bool _], Oa) => gcIn kl km kg kw T mo cv i K m (k + 1) Oa
                    | _ => none
                  | none => gcIn kl km kg kw T mo cv i K m (k + 1) O
                | _ => none
              | _ => none
            else none
          else
            match O[kl]? with
            | some (.arr [.int .i64 p, .int .i64 t]) =>
              match looksS [.agg [.int .i64 p, .int .i64 t], .ref 0 km 0, .int .i64 (l.length : Nat), qv] O with
              | some (.bool true, Oa) => K (i + 1) Oa
              | _ => none
            | _ => none
        else none
      | _ => none
    | _ => none
theorem gcIn_loop {S : Ms} (kl km kg kw : Nat) (T mo : Int) (cv : AV) (i : Int) (K :  Int → Mo → Option (AV × Mo)) (h0 : 0 ≤ i) (h1 : i ≤ 1000) (Mx : Nat) (hK : ∀ (i : Int) (O : Mo) (env : Env) (r : AV) (O' : Mo), K i O = some (r, O') → env 0 = .int .u8 T → env 1 = .int .u8 mo → env 2 = cv → env 7 = .ref 0 kl 0 → env 8 = .ref 0 km 0 → env 10 = .ref 0 kg 0 → env 11 = .map 0 kw → env 12 = .int .i64 i → W3x1 cfgA (tabC [(13, known31S), (14, formatS), (15, hasS), (16, leave31S), (17, run31S), (18, leaveResS), (19, rLeaveS), (20, enter31S), (21, rEnterS), (22, enterResS), (23, looksS)]) 100000 (loopN (exec cfgA (tabC [(13, known31S), (14, formatS), (15, hasS), (16, leave31S), (17, run31S), (18, leaveResS), (19, rLeaveS), (20, enter31S), (21, rEnterS), (22, enterResS), (23, looksS)]) 100000 B3x1) [] Mx ⟨leOf 184 env, O, S ++ [[]]⟩) = some (r, O', S)) : ∀ (n : Nat) (k : Int) (O : Mo) (env : Env) (M : Nat) (r : AV) (O' : Mo) (h : gcIn kl km kg kw T mo cv i K n k O = some (r, O')) (hM : n < M) (e0 : env 0 = .int .u8 T) (e1 : env 1 = .int .u8 mo) (e2 : env 2 = cv) (e3 : env 7 = .ref 0 kl 0) (e4 : env 8 = .ref 0 km 0) (e5 : env 10 = .ref 0 kg 0) (e6 : env 11 = .map 0 kw) (e7 : env 12 = .int .i64 i) (e8 : env 20 = .int .i64 k),
    W3x1 cfgA (tabC [(13, known31S), (14, formatS), (15, hasS), (16, leave31S), (17, run31S), (18, leaveResS), (19, rLeaveS), (20, enter31S), (21, rEnterS), (22, enterResS), (23, looksS)]) 100000 (loopK (exec cfgA (tabC [(13, known31S), (14, formatS), (15, hasS), (16, leave31S), (17, run31S), (18, leaveResS), (19, rLeaveS), (20, enter31S), (21, rEnterS), (22, enterResS), (23, looksS)]) 100000 B3x1) Mx (seqC (cfg := cfgA) (call := tabC [(13, known31S), (14, formatS), (15, hasS), (16, leave31S), (17, run31S), (18, leaveResS), (19, rLeaveS), (20, enter31S), (21, rEnterS), (22, enterResS), (23, looksS)]) 100000 (blockC 1 (seqC (cfg := cfgA) (call := tabC [(13, known31S), (14, formatS), (15, hasS), (16, leave31S), (17, run31S), (18, leaveResS), (19, rLeaveS), (20, enter31S), (21, rEnterS), (22, enterResS), (23, looksS)]) 100000 (blockC 3 (loopN (exec cfgA (tabC [(13, known31S), (14, formatS), (15, hasS), (16, leave31S), (17, run31S), (18, leaveResS), (19, rLeaveS), (20, enter31S), (21, rEnterS), (22, enterResS), (23, looksS)]) 100000 B3x0) [] M ⟨leOf 184 env, O, S ++ [[]]⟩)) (.seq
 (.ops 38 [⟨some 174, none, .ld 2 true (.t 7), []⟩,
 ⟨some 175, none, .mv (.t 8), []⟩,
 ⟨some 176, none, .fld 0 (.t 10), []⟩,
 ⟨some 177, none, .ld 1 false (.t 176), []⟩,
 ⟨some 178, none, .len .slice (.t 177), []⟩,
 ⟨some 179, none, .fld 1 (.t 10), []⟩,
 ⟨some 180, none, .ld 1 false (.t 179), []⟩,
 ⟨some 181, none, .call 23 [.t 174, .t 175, .t 178, .t 180], []⟩,
 ⟨some 182, none, .un .not (.t 181), []⟩])
 (.cond (.t 182)
 (.seq
 (.ops 39 [⟨some 6, none, .mv (.c (.bool false)), []⟩])
 .ret)
 .skip)))) (.ops 11 [⟨some 63, none, .mv (.t 12), []⟩,
 ⟨some 64, none, .bin .add (.t 63) (.c (.int .i64 1)), []⟩,
 ⟨some 12, none, .mv (.t 64), []⟩]))) = some (r, O', S) := by
  intro n
  induction n with
  | zero =>
    intro k O env M r O' h hM e0 e1 e2 e3 e4 e5 e6 e7 e8
    unfold gcIn at h
    first | (cases h; done) | (dsimp only at h; cases h; done) | (split at h <;> first | (cases h; done) | (exfalso; omega))
  | succ n ih =>
    intro k O env M r O' h hM e0 e1 e2 e3 e4 e5 e6 e7 e8
    obtain ⟨M, rfl⟩ : ∃ M', M = M' + 1 := ⟨M - 1, by omega⟩
    unfold gcIn at h
    repeat' (split at h)
    all_goals first | (cases h; done) | (dsimp only at h; cases h; done) | (exfalso; omega) | skip
    all_goals
      try dsimp only at h
      try simp only [acc, accZ, errA] at *
      first
        | (simp (disch := first | decide | omega | assumption | exact isS_of (by assumption) | exact ixok_of (by assumption) (by omega) | exact slOk_of (by assumption) | exact bufOk_of (by assumption) (by omega) | exact ixok_ofR (by assumption) (by omega) | exact slOk_ofR (by assumption) | exact lenOk_of (by assumption) (by omega) | exact ixok_of8 (by assumption) (by omega) | fail) only [loop_unf, loopK_N, loopK_E, loopK_R, RAs, RBs, RCs, RDs, REs, RFs, RGs, RHs, RIs, RJs, RKs, RLs, RRt, Nat.reduceLT, Nat.reduceEqDiff, Nat.reduceAdd, Nat.reduceSub, RXa, RXb, RXc, methR, methE, methM, RSl, RSr, RSm, *]
           refine ih _ _ _ _ _ _ h (by omega) ?_ ?_ ?_ ?_ ?_ ?_ ?_ ?_ ?_
           all_goals simp (disch := first | decide | omega | assumption | exact isS_of (by assumption) | exact ixok_of (by assumption) (by omega) | exact slOk_of (by assumption) | exact bufOk_of (by assumption) (by omega) | exact ixok_ofR (by assumption) (by omega) | exact slOk_ofR (by assumption) | exact lenOk_of (by assumption) (by omega) | exact ixok_of8 (by assumption) (by omega) | fail) only [RAs, RBs, RCs, RDs, REs, RFs, RGs, RHs, RIs, RJs, RKs, RLs, RRt, Nat.reduceLT, Nat.reduceEqDiff, Nat.reduceAdd, Nat.reduceSub, RXa, RXb, RXc, methR, methE, methM, RSl, RSr, RSm, *])
        | (simp (disch := first | decide | omega | assumption | exact isS_of (by assumption) | exact ixok_of (by assumption) (by omega) | exact slOk_of (by assumption) | exact bufOk_of (by assumption) (by omega) | exact ixok_ofR (by assumption) (by omega) | exact slOk_ofR (by assumption) | exact lenOk_of (by assumption) (by omega) | exact ixok_of8 (by assumption) (by omega) | fail) only [loop_unf, loopK_N, loopK_E, loopK_R, RAs, RBs, RCs, RDs, REs, RFs, RGs, RHs, RIs, RJs, RKs, RLs, RRt, Nat.reduceLT, Nat.reduceEqDiff, Nat.reduceAdd, Nat.reduceSub, RXa, RXb, RXc, methR, methE, methM, RSl, RSr, RSm, *]
           refine hK _ _ _ _ _ h ?_ ?_ ?_ ?_ ?_ ?_ ?_ ?_
           all_goals simp (disch := first | decide | omega | assumption | exact isS_of (by assumption) | exact ixok_of (by assumption) (by omega) | exact slOk_of (by assumption) | exact bufOk_of (by assumption) (by omega) | exact ixok_ofR (by assumption) (by omega) | exact slOk_ofR (by assumption) | exact lenOk_of (by assumption) (by omega) | exact ixok_of8 (by assumption) (by omega) | fail) only [RAs, RBs, RCs, RDs, REs, RFs, RGs, RHs, RIs, RJs, RKs, RLs, RRt, Nat.reduceLT, Nat.reduceEqDiff, Nat.reduceAdd, Nat.reduceSub, RXa, RXb, RXc, methR, methE, methM, RSl, RSr, RSm, *])
        | (simp only [Option.some.injEq, Prod.mk.injEq] at h
           obtain ⟨rfl, rfl⟩ := h
           simp (disch := first | decide | omega | assumption | exact isS_of (by assumption) | exact ixok_of (by assumption) (by omega) | exact slOk_of (by assumption) | exact bufOk_of (by assumption) (by omega) | exact ixok_ofR (by assumption) (by omega) | exact slOk_ofR (by assumption) | exact lenOk_of (by assumption) (by omega) | exact ixok_of8 (by assumption) (by omega) | fail) only [W3x1, loop_unf, loopK_N, loopK_E, loopK_R, RAs, RBs, RCs, RDs, REs, RFs, RGs, RHs, RIs, RJs, RKs, RLs, RRt, Nat.reduceLT, Nat.reduceEqDiff, Nat.reduceAdd, Nat.reduceSub, RXa, RXb, RXc, methR, methE, methM, RSl, RSr, RSm, *])

attribute [local irreducible] gcIn
/-- ticketlinelaw31.GateCalls: the loop 1 -/
def gcLeave (kl km kg : Nat) (t : Int) (R : Mo → Option (AV × Mo)) (O : Mo) : Option (AV × Mo) :=
  match O[kl]? with
  | some (.arr [.int .i64 p, .int .i64 tt]) =>
    match leave31S [.agg [.int .i64 p, .int .i64 tt], .int .i64 t] O with
    | some (.ref 0 kp 0, Oc) =>
      match run31S [.iface 35 (.ref 0 kp 0), .ref 0 km 0, .int .i64 60] Oc with
      | some (.tup [.bool true, .bool false], Od) =>
        match leaveResS [.ref 0 kp 0] Od with
        | some (.int .u64 v, Oe) =>
          if v = 1 then
            match Oe[kg]? with
            | some (.arr [iv3, qv3]) =>
              match rLeaveS [.agg [iv3, qv3], .int .i64 t] Oe with
              | some (.agg [iv4, qv4], Of) =>
                match Of[kg]? with
                | some (.arr [c0, c1]) =>
                  match rdI Of iv4 with
                  | some _ =>
                    match rdI Of qv4 with
                    | some _ => R (Of.set kg (.arr [iv4, qv4]))
                    | _ => none
                  | _ => none
                | _ => none
              | _ => none
            | _ => none
          else none
        | _ => none
      | _ => none
    | _ => none
  | _ => none
def gcEnter (kl km kg kw : Nat) (t mo : Int) (R : Mo → Option (AV × Mo)) (O : Mo) : Option (AV × Mo) :=
  match O[kl]? with
  | some (.arr [.int .i64 p, .int .i64 tt]) =>
    match enter31S [.agg [.int .i64 p, .int .i64 tt], .int .i64 t, .int .i64 mo] O with
    | some (.ref 0 kp 0, Oc) =>
      match Oc[kg]? with
      | some (.arr [iv3, qv3]) =>
        match rEnterS [.agg [iv3, qv3], .int .i64 t, .int .i64 mo] Oc with
        | some (.agg [iv4, qv4], Od) =>
          match Od[kg]? with
          | some (.arr [c0, c1]) =>
            match rdI Od iv4 with
            | some _ =>
              match rdI Od qv4 with
              | some _ =>
                match run31S [.iface 42 (.ref 0 kp 0), .ref 0 km 0, .int .i64 60] (Od.set kg (.arr [iv4, qv4])) with
                | some (.tup [.bool true, .bool false], Of) =>
                  match Of[kg]? with
                  | some (.arr [iv5, qv5]) =>
                    match hasS [iv5, .int .i64 t] Of with
                    | some (.bool true, Og) =>
                      match enterResS [.ref 0 kp 0] Og with
                      | some (.int .u64 v, Oh) =>
                        if v = 1 then
                          match mapI Oh kw with
                          | some mp => R (Oh.set kw (.map (encM (putI t kp mp))))
                          | _ => none
                        else none
                      | _ => none
                    | _ => none
                  | _ => none
                | some (.tup [.bool false, .bool true], Of) =>
                  match Of[kg]? with
                  | some (.arr [iv5, qv5]) =>
                    match hasS [iv5, .int .i64 t] Of with
                    | some (.bool false, Og) =>
                      match mapI Og kw with
                      | some mp => R (Og.set kw (.map (encM (putI t kp mp))))
                      | _ => none
                    | _ => none
                  | _ => none
                | _ => none
              | _ => none
            | _ => none
          | _ => none
        | _ => none
      | _ => none
    | _ => none
  | _ => none
def gcOut (kl km kg kw : Nat) (T mo : Int) (cv : AV) : Nat → Int → Mo → Option (AV × Mo)
  | 0, i, O => none
  | m + 1, i, O =>
    match rd8 O cv with
    | some cl =>
      if cl.length ≤ 1000 then
        if i < (cl.length : Int) then
          if 0 ≤ i then
            match cl[i.toNat]? with
            | some c =>
              if 0 ≤ c ∧ c ≤ 255 then
                match O[kg]? with
                | some (.arr [iv, qv]) =>
                  match hasS [qv, .int .i64 (c % T)] O with
                  | some (.bool true, Oa) => gcOut kl km kg kw T mo cv m (i + 1) Oa
                  | some (.bool false, Oa) =>
                    match Oa[kg]? with
                    | some (.arr [iv2, qv2]) =>
                      match hasS [iv2, .int .i64 (c % T)] Oa with
                      | some (.bool true, Ob) => gcLeave kl km kg (c % T) (fun Oc => gcIn kl km kg kw T mo cv i (fun i O => gcOut kl km kg kw T mo cv m i O) 1002 0 Oc) Ob
                      | some (.bool false, Ob) => gcEnter kl km kg kw (c % T) mo (fun Oc => gcIn kl km kg kw T mo cv i (fun i O => gcOut kl km kg kw T mo cv m i O) 1002 0 Oc) Ob
                      | _ => none
                    | _ => none
                  | _ => none
                | _ => none
              else none
            | _ => none
          else none
        else
          match known31S [] O with
          | some (.bool b, Oa) => some (.bool b, Oa)
          | _ => none
      else none
    | _ => none
theorem gcOut_loop {S : Ms} (kl km kg kw : Nat) (T mo : Int) (cv : AV) (hT0 : 1 ≤ T) (hT1 : T ≤ 255) (hm0 : 0 ≤ mo) (hm1 : mo ≤ 255) : ∀ (n : Nat) (i : Int) (O : Mo) (env : Env) (M : Nat) (r : AV) (O' : Mo) (h : gcOut kl km kg kw T mo cv n i O = some (r, O')) (hM : n < M) (e0 : env 0 = .int .u8 T) (e1 : env 1 = .int .u8 mo) (e2 : env 2 = cv) (e3 : env 7 = .ref 0 kl 0) (e4 : env 8 = .ref 0 km 0) (e5 : env 10 = .ref 0 kg 0) (e6 : env 11 = .map 0 kw) (e7 : env 12 = .int .i64 i),
    W3x1 cfgA (tabC [(13, known31S), (14, formatS), (15, hasS), (16, leave31S), (17, run31S), (18, leaveResS), (19, rLeaveS), (20, enter31S), (21, rEnterS), (22, enterResS), (23, looksS)]) 100000 (loopN (exec cfgA (tabC [(13, known31S), (14, formatS), (15, hasS), (16, leave31S), (17, run31S), (18, leaveResS), (19, rLeaveS), (20, enter31S), (21, rEnterS), (22, enterResS), (23, looksS)]) 100000 B3x1) [] M ⟨leOf 184 env, O, S ++ [[]]⟩) = some (r, O', S) := by
  intro n
  induction n with
  | zero =>
    intro i O env M r O' h hM e0 e1 e2 e3 e4 e5 e6 e7
    unfold gcOut at h
    first | (cases h; done) | (dsimp only at h; cases h; done) | (split at h <;> first | (cases h; done) | (exfalso; omega))
  | succ n ih =>
    intro i O env M r O' h hM e0 e1 e2 e3 e4 e5 e6 e7
    obtain ⟨M, rfl⟩ : ∃ M', M = M' + 1 := ⟨M - 1, by omega⟩
    unfold gcOut at h
    try unfold gcLeave at h
    try unfold gcEnter at h
    repeat' (split at h)
    all_goals first | (cases h; done) | (dsimp only at h; cases h; done) | (exfalso; omega) | skip
    all_goals
      try dsimp only at h
      try simp only [acc, accZ, errA] at *
      first
        | (simp (disch := first | decide | omega | assumption | exact isS_of (by assumption) | exact ixok_of (by assumption) (by omega) | exact slOk_of (by assumption) | exact bufOk_of (by assumption) (by omega) | exact ixok_ofR (by assumption) (by omega) | exact slOk_ofR (by assumption) | exact lenOk_of (by assumption) (by omega) | exact ixok_of8 (by assumption) (by omega) | fail) only [loop_unf, loopK_N, loopK_E, loopK_R, RAs, RBs, RCs, RDs, REs, RFs, RGs, RHs, RIs, RJs, RKs, RLs, RRt, Nat.reduceLT, Nat.reduceEqDiff, Nat.reduceAdd, Nat.reduceSub, RXa, RXb, RXc, methR, methE, methM, RSl, RSr, RSm, *]
           refine ih _ _ _ _ _ _ h (by omega) ?_ ?_ ?_ ?_ ?_ ?_ ?_ ?_
           all_goals simp (disch := first | decide | omega | assumption | exact isS_of (by assumption) | exact ixok_of (by assumption) (by omega) | exact slOk_of (by assumption) | exact bufOk_of (by assumption) (by omega) | exact ixok_ofR (by assumption) (by omega) | exact slOk_ofR (by assumption) | exact lenOk_of (by assumption) (by omega) | exact ixok_of8 (by assumption) (by omega) | fail) only [RAs, RBs, RCs, RDs, REs, RFs, RGs, RHs, RIs, RJs, RKs, RLs, RRt, Nat.reduceLT, Nat.reduceEqDiff, Nat.reduceAdd, Nat.reduceSub, RXa, RXb, RXc, methR, methE, methM, RSl, RSr, RSm, *])
        | (simp (disch := first | decide | omega | assumption | exact isS_of (by assumption) | exact ixok_of (by assumption) (by omega) | exact slOk_of (by assumption) | exact bufOk_of (by assumption) (by omega) | exact ixok_ofR (by assumption) (by omega) | exact slOk_ofR (by assumption) | exact lenOk_of (by assumption) (by omega) | exact ixok_of8 (by assumption) (by omega) | fail) only [loop_unf, loopK_N, loopK_E, loopK_R, RAs, RBs, RCs, RDs, REs, RFs, RGs, RHs, RIs, RJs, RKs, RLs, RRt, Nat.reduceLT, Nat.reduceEqDiff, Nat.reduceAdd, Nat.reduceSub, RXa, RXb, RXc, methR, methE, methM, RSl, RSr, RSm, *]
           refine gcIn_loop _ _ _ _ _ _ _ _ _ (by omega) (by omega) _ (fun x0 O env r O' h y0 y1 y2 y3 y4 y5 y6 y7 => ih x0 O env _ r O' h (by omega) y0 y1 y2 y3 y4 y5 y6 y7) _ _ _ _ _ _ _ h (by omega) ?_ ?_ ?_ ?_ ?_ ?_ ?_ ?_ ?_
           all_goals simp (disch := first | decide | omega | assumption | exact isS_of (by assumption) | exact ixok_of (by assumption) (by omega) | exact slOk_of (by assumption) | exact bufOk_of (by assumption) (by omega) | exact ixok_ofR (by assumption) (by omega) | exact slOk_ofR (by assumption) | exact lenOk_of (by assumption) (by omega) | exact ixok_of8 (by assumption) (by omega) | fail) only [RAs, RBs, RCs, RDs, REs, RFs, RGs, RHs, RIs, RJs, RKs, RLs, RRt, Nat.reduceLT, Nat.reduceEqDiff, Nat.reduceAdd, Nat.reduceSub, RXa, RXb, RXc, methR, methE, methM, RSl, RSr, RSm, *])
        | (simp only [Option.some.injEq, Prod.mk.injEq] at h
           obtain ⟨rfl, rfl⟩ := h
           simp (disch := first | decide | omega | assumption | exact isS_of (by assumption) | exact ixok_of (by assumption) (by omega) | exact slOk_of (by assumption) | exact bufOk_of (by assumption) (by omega) | exact ixok_ofR (by assumption) (by omega) | exact slOk_ofR (by assumption) | exact lenOk_of (by assumption) (by omega) | exact ixok_of8 (by assumption) (by omega) | fail) only [W3x1, loop_unf, loopK_N, loopK_E, loopK_R, RAs, RBs, RCs, RDs, REs, RFs, RGs, RHs, RIs, RJs, RKs, RLs, RRt, Nat.reduceLT, Nat.reduceEqDiff, Nat.reduceAdd, Nat.reduceSub, RXa, RXb, RXc, methR, methE, methM, RSl, RSr, RSm, *])

attribute [local irreducible] gcOut
/-- ticketlinelaw31.GateCalls -/
def gcK (O : Mo) : Option (AV × Mo) :=
  match known31S [] O with
  | some (.bool b, Oa) => some (.bool b, Oa)
  | _ => none
def gcallsS : Sp := fun args O =>
  match args with
  | [.int .u8 T, .int .u8 mo, cv] =>
    if 0 ≤ T ∧ T ≤ 255 ∧ 0 ≤ mo ∧ mo ≤ 255 then
      match rd8 O cv with
      | some cl =>
        if T < 1 then gcK O
        else if 6 < T then gcK O
        else if mo < 1 then gcK O
        else if 6 < mo then gcK O
        else if 30 < (cl.length : Int) then gcK O
        else
          match formatS [.agg [.int .i64 2, .int .i64 T]] (O ++ [.arr [.int .i64 2, .int .i64 T]]) with
          | some (.tup [.ref 0 km 0, .int .i64 e], Oa) => if e = 0 then gcOut O.length km Oa.length (Oa ++ [ABlk.arr [.nils, .nils]]).length T mo cv 50 0 (Oa ++ [.arr [.nils, .nils]] ++ [.map []]) else none
          | _ => none
      | _ => none
    else none
  | _ => none
theorem gcallsS_ok : SpOk Tryz.prog 3 gcallsS := by
  intro args O r O' h S
  unfold gcallsS at h
  repeat' (split at h)
  all_goals first | (cases h; done) | skip
  all_goals try unfold gcK at h
  all_goals try (repeat' (split at h))
  all_goals first | (cases h; done) | skip
  all_goals
    try simp only [acc, accZ, errA] at *
    first
      | (simp only [Option.some.injEq, Prod.mk.injEq] at h
         obtain ⟨rfl, rfl⟩ := h
         refine bodyA (tabC_cons known31S_ok (tabC_cons formatS_ok (tabC_cons hasS_ok (tabC_cons leave31S_ok (tabC_cons run31S_ok (tabC_cons leaveResS_ok (tabC_cons rLeaveS_ok (tabC_cons enter31S_ok (tabC_cons rEnterS_ok (tabC_cons enterResS_ok (tabC_cons looksS_ok (tabC_nil _)))))))))))) (n := 100000) F3_code ?_
         simp (disch := first | decide | omega | assumption | exact isS_of (by assumption) | exact ixok_of (by assumption) (by omega) | exact slOk_of (by assumption) | exact bufOk_of (by assumption) (by omega) | exact ixok_ofR (by assumption) (by omega) | exact slOk_ofR (by assumption) | exact lenOk_of (by assumption) (by omega) | exact ixok_of8 (by assumption) (by omega) | fail) only [F3, RAs, RBs, RCs, RDs, REs, RFs, RGs, RHs, RIs, RJs, RKs, RLs, RRt, Nat.reduceLT, Nat.reduceEqDiff, Nat.reduceAdd, Nat.reduceSub, RXa, RXb, RXc, methR, methE, methM, RSl, RSr, RSm, acc, accZ, errA, *])
      | (refine bodyA (tabC_cons known31S_ok (tabC_cons formatS_ok (tabC_cons hasS_ok (tabC_cons leave31S_ok (tabC_cons run31S_ok (tabC_cons leaveResS_ok (tabC_cons rLeaveS_ok (tabC_cons enter31S_ok (tabC_cons rEnterS_ok (tabC_cons enterResS_ok (tabC_cons looksS_ok (tabC_nil _)))))))))))) (n := 100000) F3_code ?_
         simp (disch := first | decide | omega | assumption | exact isS_of (by assumption) | exact ixok_of (by assumption) (by omega) | exact slOk_of (by assumption) | exact bufOk_of (by assumption) (by omega) | exact ixok_ofR (by assumption) (by omega) | exact slOk_ofR (by assumption) | exact lenOk_of (by assumption) (by omega) | exact ixok_of8 (by assumption) (by omega) | fail) only [F3, RAs, RBs, RCs, RDs, REs, RFs, RGs, RHs, RIs, RJs, RKs, RLs, RRt, Nat.reduceLT, Nat.reduceEqDiff, Nat.reduceAdd, Nat.reduceSub, RXa, RXb, RXc, methR, methE, methM, RSl, RSr, RSm, e_loop, acc, accZ, errA, *]
         refine (fin_skip _ _ _ _ _).trans ?_
         refine gcOut_loop _ _ _ _ _ _ _ (by omega) (by omega) (by omega) (by omega) _ _ _ _ _ _ _ h (by omega) ?_ ?_ ?_ ?_ ?_ ?_ ?_ ?_
         all_goals simp (disch := first | decide | omega | assumption | exact isS_of (by assumption) | exact ixok_of (by assumption) (by omega) | exact slOk_of (by assumption) | exact bufOk_of (by assumption) (by omega) | exact ixok_ofR (by assumption) (by omega) | exact slOk_ofR (by assumption) | exact lenOk_of (by assumption) (by omega) | exact ixok_of8 (by assumption) (by omega) | fail) only [RAs, RBs, RCs, RDs, REs, RFs, RGs, RHs, RIs, RJs, RKs, RLs, RRt, Nat.reduceLT, Nat.reduceEqDiff, Nat.reduceAdd, Nat.reduceSub, RXa, RXb, RXc, methR, methE, methM, RSl, RSr, RSm, *])

end Den

/- GateCalls: the reference's functions, and the programs' runs. -/
set_option maxRecDepth 100000
set_option maxHeartbeats 1000000
set_option linter.unusedSimpArgs false
set_option linter.unusedVariables false
namespace Den
open Go Go.Proofs

theorem GrI.of_ag {O O' : Mo} {v : AV} {l : List Int} (h : GrI O v l) {n : Nat} (ho : ∀ x ∈ own v, x < n) (g : ∀ j, j < n → O'[j]? = O[j]?) : GrI O' v l := by
  rcases h with ⟨rfl, rfl⟩ | ⟨k, rfl, hk⟩
  · exact Or.inl ⟨rfl, rfl⟩
  · exact Or.inr ⟨k, rfl, by rw [g k (ho k (by simp [own]))]; exact hk⟩
theorem GrI.lt {O : Mo} {v : AV} {l : List Int} (h : GrI O v l) : ∀ x ∈ own v, x < O.length := fun x hx => lt_of_get (own_get h x hx)
theorem withoutG_ok {lv : AV} {x : Int} {l : List Int} {n : Nat} (hl : l.length ≤ 1000) : ∀ (m : Nat) (i : Int) (ov : AV) (O : Mo) (D : List Int), 0 ≤ i → i ≤ l.length → (l.length : Int) < i + m → n ≤ O.length → GrI O lv l → (∀ y ∈ own lv, y < n) → GrI O ov D → (∀ y ∈ own ov, n ≤ y) → (D.length : Int) ≤ i →
    ∃ w O', withoutG lv x m i ov O = some (w, O') ∧ GrI O' w (D ++ (l.drop i.toNat).filter (fun y => !(y == x))) ∧ (∀ y ∈ own w, n ≤ y) ∧ O.length ≤ O'.length ∧ ∀ j, j < n → O'[j]? = O[j]? := by
  intro m
  induction m with
  | zero => intro i ov O D h0 h1 h2; omega
  | succ m ih =>
    intro i ov O D h0 h1 h2 hn hlv hol hov hoo hD
    by_cases hi : i < (l.length : Int)
    · obtain ⟨y, hy⟩ := get_of_lt (W := l) (i := i.toNat) (by omega)
      have hd : l.drop i.toNat = y :: l.drop (i + 1).toNat := by
        obtain ⟨p1, p2⟩ := List.getElem?_eq_some_iff.1 hy
        rw [List.drop_eq_getElem_cons p1, p2]; congr 2; omega
      by_cases hx : y - x = 0
      · have : (y == x) = true := by simp; omega
        obtain ⟨w, O', e, g, o, le, ag⟩ := ih (i + 1) ov O D (by omega) (by omega) (by omega) hn hlv hol hov hoo (by omega)
        refine ⟨w, O', by simp only [withoutG, hlv.rd, if_pos hl, if_pos hi, if_pos h0, hy, if_pos hx, e], ?_, o, le, ag⟩
        rw [hd, List.filter_cons, this]; exact g
      · have : (y == x) = false := by simp; omega
        obtain ⟨ov2, O1, e1, g1, l1, a1, w1⟩ := grow_ok (m := [y]) hov (by omega) (by simp)
        have k1 : ∀ j, j < n → O1[j]? = O[j]? := fun j hj => a1 j (by omega) (fun hjo => by have := hoo j hjo; omega)
        obtain ⟨w, O', e, g, o, le, ag⟩ := ih (i + 1) ov2 O1 (D ++ [y]) (by omega) (by omega) (by omega) (by omega) (hlv.of_ag hol k1) hol g1 (fun z hz => by
          rcases w1 with e | e
          · rw [e] at hz; exact hoo z hz
          · rw [e] at hz; simp at hz; omega) (by simp; omega)
        refine ⟨w, O', by simp only [withoutG, hlv.rd, if_pos hl, if_pos hi, if_pos h0, hy, if_neg hx, e1, e], ?_, o, by omega, fun j hj => by rw [ag j hj, k1 j hj]⟩
        rw [hd, List.filter_cons, this]; simpa using g
    · have hd : l.drop i.toNat = [] := List.drop_eq_nil_of_le (by omega)
      refine ⟨ov, O, by simp only [withoutG, hlv.rd, if_pos hl, if_neg hi, hov.rd], ?_, hoo, Nat.le_refl _, fun j hj => rfl⟩
      rw [hd]; simpa using hov
def wo (l : List Int) (x : Int) : List Int := l.filter (fun y => !(y == x))
theorem without_ok {O : Mo} {lv : AV} {l : List Int} (x : Int) (hl : l.length ≤ 1000) (h : GrI O lv l) : ∃ w O', withoutS [lv, .int .i64 x] O = some (w, O') ∧ GrI O' w (wo l x) ∧ (∀ y ∈ own w, O.length ≤ y) ∧ Ag O O' [] := by
  obtain ⟨w, O', e, g, o, le, ag⟩ := withoutG_ok (x := x) (n := O.length) hl 1002 0 .nils O [] (by omega) (by omega) (by omega) (Nat.le_refl _) h h.lt (Or.inl ⟨rfl, rfl⟩) (fun y hy => by simp [own] at hy) (by simp)
  exact ⟨w, O', by simp only [withoutS, e], by simpa [wo] using g, o, le, fun j hj _ => ag j hj⟩
theorem wo_lt {l : List Int} {x : Int} : (wo l x).length < l.length ↔ x ∈ l := by
  unfold wo
  constructor
  · intro h
    refine Decidable.byContradiction fun hx => ?_
    have : l.filter (fun y => !(y == x)) = l := List.filter_eq_self.2 (fun y hy => by simp; intro e; subst e; exact hx hy)
    rw [this] at h; omega
  · intro h
    rcases Nat.lt_or_ge (l.filter (fun y => !(y == x))).length l.length with h2 | h2
    · exact h2
    · have hle := List.length_filter_le (fun y => !(y == x)) l
      have := List.length_filter_eq_length_iff.1 (Nat.le_antisymm hle h2) x h
      simp at this
theorem has_ok {O : Mo} {lv : AV} {l : List Int} (x : Int) (hl : l.length ≤ 1000) (h : GrI O lv l) : ∃ O', hasS [lv, .int .i64 x] O = some (.bool (decide (x ∈ l)), O') ∧ Ag O O' [] := by
  obtain ⟨w, O', e, g, _, ag⟩ := without_ok x hl h
  have h2 := h.ag ag (by simp)
  refine ⟨O', ?_, ag⟩
  by_cases hx : x ∈ l
  · have : ((wo l x).length : Int) < (l.length : Int) := by have := wo_lt.2 hx; omega
    simp only [hasS, e, g.rd, h2.rd, if_pos this, hx, decide_true]
  · have : ¬ ((wo l x).length : Int) < (l.length : Int) := fun hh => hx (wo_lt.1 (by omega))
    simp only [hasS, e, g.rd, h2.rd, if_neg this, hx, decide_false]
/-- The reference lets a thread enter. -/
theorem rEnter_ok {O : Mo} {iv qv : AV} {I Q : List Int} (x mo : Int) (hi : I.length ≤ 900) (hq : Q.length ≤ 900) (h1 : GrI O iv I) (h2 : GrI O qv Q) :
    ∃ iv' qv' O', rEnterS [.agg [iv, qv], .int .i64 x, .int .i64 mo] O = some (.agg [iv', qv'], O') ∧ Ag O O' [] ∧ GrI O' iv' (if Q = [] ∧ (I.length : Int) < mo then I ++ [x] else I) ∧ GrI O' qv' (if Q = [] ∧ (I.length : Int) < mo then [] else Q ++ [x]) := by
  have A0 : Ag O (O ++ [ABlk.arr [iv, qv]] ++ [ABlk.arr [.nils, .nils]]) [] := (Ag.app _ _ _).trans (Ag.app _ _ _)
  have g1 := h1.ag A0 (by simp)
  have g2 := h2.ag A0 (by simp)
  have hk1 : (O ++ [ABlk.arr [iv, qv]] ++ [.arr [.nils, .nils]])[(O ++ [ABlk.arr [iv, qv]]).length]? = some (.arr [.nils, .nils]) := app_last _ _
  have hk0 : (O ++ [ABlk.arr [iv, qv]] ++ [.arr [.nils, .nils]])[O.length]? = some (.arr [iv, qv]) := app_get (app_last _ _)
  have hlen : (O ++ [ABlk.arr [iv, qv]]).length = O.length + 1 := by simp
  have hlen2 : (O ++ [ABlk.arr [iv, qv]] ++ [ABlk.arr [.nils, .nils]]).length = O.length + 2 := by simp
  -- what is made anew, of a list and one more
  have mk : ∀ l : List Int, l.length ≤ 900 → ∃ w Oa w2 Ob, growI (O ++ [.arr [iv, qv]] ++ [.arr [.nils, .nils]]) .nils l = some (w, Oa) ∧ growI Oa w [x] = some (w2, Ob) ∧ GrI Ob w2 (l ++ [x]) ∧ (∀ y ∈ own w2, O.length + 2 ≤ y) ∧ O.length + 2 ≤ Ob.length ∧
      (∀ j, j < O.length + 2 → Oa[j]? = (O ++ [.arr [iv, qv]] ++ [.arr [.nils, .nils]])[j]?) ∧ (∀ j, j < O.length + 2 → Ob[j]? = (O ++ [.arr [iv, qv]] ++ [.arr [.nils, .nils]])[j]?) := by
    intro l hl
    obtain ⟨w, Oa, e1, q1, l1, a1, x1⟩ := grow_ok (O := O ++ [.arr [iv, qv]] ++ [.arr [.nils, .nils]]) (v := .nils) (l := []) (m := l) (Or.inl ⟨rfl, rfl⟩) (by simp) (by omega)
    obtain ⟨w2, Ob, e2, q2, l2, a2, x2⟩ := grow_ok (m := [x]) q1 (by simp; omega) (by simp)
    have ow : ∀ y ∈ own w, O.length + 2 ≤ y := fun y hy => by
      rcases x1 with e | e
      · rw [e] at hy; simp [own] at hy
      · rw [e, hlen2] at hy; simp at hy; omega
    have k1 : ∀ j, j < O.length + 2 → Oa[j]? = (O ++ [.arr [iv, qv]] ++ [.arr [.nils, .nils]])[j]? := fun j hj => a1 j (by omega) (by simp [own])
    refine ⟨w, Oa, w2, Ob, e1, e2, by simpa using q2, fun y hy => ?_, by omega, k1, fun j hj => ?_⟩
    · rcases x2 with e | e
      · rw [e] at hy; exact ow y hy
      · rw [e] at hy; simp at hy; omega
    · rw [a2 j (by omega) (fun hh => by have := ow j hh; omega), k1 j hj]
  have fin : ∀ (Ob : Mo) (c : ABlk), O.length + 2 ≤ Ob.length → (∀ j, j < O.length + 2 → Ob[j]? = (O ++ [.arr [iv, qv]] ++ [.arr [.nils, .nils]])[j]?) → Ag O (Ob.set (O.length + 1) c) [] := by
    intro Ob c hl ha
    refine ⟨by simp; omega, fun j hj _ => ?_⟩
    rw [List.getElem?_set_ne (by omega), ha j (by omega), List.getElem?_append_left (by simp; omega), List.getElem?_append_left hj]
  by_cases hc : Q = [] ∧ (I.length : Int) < mo
  · obtain ⟨w, Oa, w2, Ob, e1, e2, q2, ow2, lb, _, ab⟩ := mk I hi
    have c1 : (Q.length : Int) = 0 := by rw [hc.1]; rfl
    rw [if_pos hc, if_pos hc]
    have hset : Ag Ob (Ob.set (O.length + 1) (.arr [w2, .nils])) [O.length + 1] := Ag.set _ _ (by simp)
    refine ⟨w2, .nils, Ob.set (O.length + 1) (.arr [w2, .nils]), ?_, fin _ _ lb ab, q2.ag hset (fun y hy => by have := ow2 y hy; simp; omega), Or.inl ⟨rfl, rfl⟩⟩
    have hkb : Ob[O.length + 1]? = some (.arr [.nils, .nils]) := by rw [ab _ (by omega), ← hlen]; exact hk1
    simp only [rEnterS, h1.rd, h2.rd, g1.rd, g2.rd, if_pos c1, if_pos hc.2, e1, e2, q2.rd, hlen, hkb]
  · obtain ⟨w, Oa, w2, Ob, e1, e2, q2, ow2, lb, aa, ab⟩ := mk Q hq
    rw [if_neg hc, if_neg hc]
    have hset : Ag Ob (Ob.set (O.length + 1) (.arr [iv, w2])) [O.length + 1] := Ag.set _ _ (by simp)
    have ib : GrI Ob iv I := g1.of_ag (n := O.length + 2) (fun y hy => by have := h1.lt y hy; omega) ab
    refine ⟨iv, w2, Ob.set (O.length + 1) (.arr [iv, w2]), ?_, fin _ _ lb ab, ib.ag hset (fun y hy => by have := h1.lt y hy; simp; omega), q2.ag hset (fun y hy => by have := ow2 y hy; simp; omega)⟩
    have hkb : Ob[O.length + 1]? = some (.arr [.nils, .nils]) := by rw [ab _ (by omega), ← hlen]; exact hk1
    have hka0 : Oa[O.length]? = some (.arr [iv, qv]) := by rw [aa _ (by omega)]; exact hk0
    have hkb0 : Ob[O.length]? = some (.arr [iv, qv]) := by rw [ab _ (by omega)]; exact hk0
    have hw : rWait (O.length + 1) iv x Q O.length (O ++ [.arr [iv, qv]] ++ [.arr [.nils, .nils]]) = some (.agg [iv, w2], Ob.set (O.length + 1) (.arr [iv, w2])) := by
      simp only [rWait, e1, hka0, AV.beq_refl, if_true, e2, hkb0, q2.rd, ib.rd, hkb]
    by_cases c1 : (Q.length : Int) = 0
    · have c2 : ¬ (I.length : Int) < mo := fun hh => hc ⟨List.eq_nil_of_length_eq_zero (by omega), hh⟩
      simp only [rEnterS, h1.rd, h2.rd, g1.rd, g2.rd, if_pos c1, if_neg c2, hlen, hw]
    · simp only [rEnterS, h1.rd, h2.rd, g1.rd, g2.rd, if_neg c1, hlen, hw]
/-- The reference lets a thread leave. -/
theorem rLeave_ok {O : Mo} {iv qv : AV} {I Q : List Int} (x : Int) (hi : I.length ≤ 900) (hq : Q.length ≤ 900) (h1 : GrI O iv I) (h2 : GrI O qv Q) :
    ∃ iv' qv' O', rLeaveS [.agg [iv, qv], .int .i64 x] O = some (.agg [iv', qv'], O') ∧ Ag O O' [] ∧ GrI O' iv' (match Q with | [] => wo I x | q :: _ => wo I x ++ [q]) ∧ GrI O' qv' (Q.drop 1) := by
  have A0 : Ag O (O ++ [ABlk.arr [iv, qv]] ++ [ABlk.arr [.nils, .nils]]) [] := (Ag.app _ _ _).trans (Ag.app _ _ _)
  have g1 := h1.ag A0 (by simp)
  have g2 := h2.ag A0 (by simp)
  have hlen : (O ++ [ABlk.arr [iv, qv]]).length = O.length + 1 := by simp
  have hlen2 : (O ++ [ABlk.arr [iv, qv]] ++ [ABlk.arr [.nils, .nils]]).length = O.length + 2 := by simp
  obtain ⟨w, Oa, e1, gw, ow, ag⟩ := without_ok x (by omega) g1
  rw [hlen2] at ow
  have la := ag.1
  rw [hlen2] at la
  have hk0 : Oa[O.length]? = some (.arr [iv, qv]) := ag.get (app_get (app_last _ _)) (by simp)
  have hk1 : Oa[O.length + 1]? = some (.arr [.nils, .nils]) := by
    rw [← hlen]; exact ag.get (app_last _ _) (by simp)
  have qa : GrI Oa qv Q := g2.ag ag (by simp)
  have wl : (wo I x).length ≤ 900 := by have := List.length_filter_le (fun y => !(y == x)) I; unfold wo; omega
  have aO : ∀ j, j < O.length → Oa[j]? = O[j]? := fun j hj => by
    rw [ag.2 j (by omega) (by simp), List.getElem?_append_left (by simp; omega), List.getElem?_append_left hj]
  cases Q with
  | nil =>
    have hset : Ag Oa (Oa.set (O.length + 1) (.arr [w, .nils])) [O.length + 1] := Ag.set _ _ (by simp)
    refine ⟨w, .nils, Oa.set (O.length + 1) (.arr [w, .nils]), ?_, ⟨by simp; omega, fun j hj _ => by rw [List.getElem?_set_ne (by omega)]; exact aO j hj⟩, gw.ag hset (fun y hy => by have := ow y hy; simp; omega), Or.inl ⟨rfl, rfl⟩⟩
    have c0 : (([] : List Int).length : Int) = 0 := rfl
    simp only [rLeaveS, h1.rd, h2.rd, e1, hk0, qa.rd, gw.rd, qa.ln, if_true, if_pos c0, hlen, hk1]
  | cons q Q =>
    obtain ⟨w2, Ob, e2, gw2, lb, ab, xb⟩ := grow_ok (m := [q]) gw (by omega) (by simp)
    have kb : ∀ j, j < O.length + 2 → Ob[j]? = Oa[j]? := fun j hj => ab j (by omega) (fun hh => by have := ow j hh; omega)
    have qb : GrI Ob qv (q :: Q) := qa.of_ag (n := O.length + 2) (fun y hy => by have := h2.lt y hy; omega) kb
    have ow2 : ∀ y ∈ own w2, O.length + 2 ≤ y := fun y hy => by
      rcases xb with e | e
      · rw [e] at hy; exact ow y hy
      · rw [e] at hy; simp at hy; omega
    have hdt : ((q :: Q).drop (Int.toNat 1)).take ((q :: Q).length - Int.toNat 1) = Q := by simp
    obtain ⟨w3, Oc, e3, gw3, lc, ac, xc⟩ := grow_ok (O := Ob) (v := .nils) (l := []) (m := Q) (Or.inl ⟨rfl, rfl⟩) (by simp) (by simp at hq; omega)
    have Ac : Ag Ob Oc [] := ⟨lc, fun j hj _ => ac j hj (by simp [own])⟩
    have gw2c := gw2.ag Ac (by simp)
    have kc : Oc[O.length + 1]? = some (.arr [.nils, .nils]) := Ac.get (by rw [kb _ (by omega)]; exact hk1) (by simp)
    have hb0 : Ob[O.length]? = some (.arr [iv, qv]) := by rw [kb _ (by omega)]; exact hk0
    have ow3 : ∀ y ∈ own w3, O.length + 2 ≤ y := fun y hy => by
      rcases xc with e | e
      · rw [e] at hy; simp [own] at hy
      · rw [e] at hy; simp at hy; omega
    have hset : Ag Oc (Oc.set (O.length + 1) (.arr [w2, w3])) [O.length + 1] := Ag.set _ _ (by simp)
    refine ⟨w2, w3, Oc.set (O.length + 1) (.arr [w2, w3]), ?_, ⟨by simp; omega, fun j hj _ => ?_⟩, gw2c.ag hset (fun y hy => by have := ow2 y hy; simp; omega), ?_⟩
    · have c0 : ¬ (((q :: Q).length : Nat) : Int) = 0 := by simp; omega
      have c1 : 0 < (q :: Q).length := by simp
      simp only [rLeaveS, h1.rd, h2.rd, e1, hk0, qa.rd, gw.rd, qa.ln, if_true, if_neg c0, if_pos c1, show (q :: Q)[Int.toNat 0]? = some q from rfl, e2, hb0, AV.beq_refl, qb.rd, if_pos qb.slLn.1, hdt, e3, hlen, kc, gw2c.rd, gw3.rd]
    · rw [List.getElem?_set_ne (by omega), Ac.2 j (by omega) (by simp), kb j (by omega)]; exact aO j hj
    · have : GrI (Oc.set (O.length + 1) (.arr [w2, w3])) w3 ([] ++ Q) := gw3.ag hset (fun y hy => by have := ow3 y hy; simp; omega)
      simpa using this

/-! Runs of programs that are there -/
def Dp (O : Mo) (k : Nat) (b t th : Int) : Prop := ∃ ka kn p, Gn O k ka kn b t th p ∧ p.st = 16
theorem Dp.keep {O O' : Mo} {k : Nat} {b t th : Int} {l : List Nat} (h : Dp O k b t th) (g : Ag O O' l) (hn : noArr O l) : Dp O' k b t th := by
  obtain ⟨ka, kn, p, h, e⟩ := h; exact ⟨ka, kn, p, h.keep g hn, e⟩
section
variable {km kb : Nat} {p t v mo : Int} {W : List Int} {Q : List Int} {O : Mo}
theorem waitRun (hp : 1 ≤ p ∧ p ≤ 511) (ht : 1 ≤ t ∧ t ≤ 17) (m : MemW O km kb W) (g : GI (16 + 128 * p) t W v Q) {th : Int} (h1 : 0 ≤ th) (h2 : th < t) (hn : th ∉ Q) (hc : ¬ (Q = [] ∧ v < mo)) (m1 : 1 ≤ mo) (m2 : mo ≤ 64) {kp ka kn : Nat} (n : Gn O kp ka kn (16 + 128 * p) t th (gp0 mo)) :
    ∃ O2 W', run31S [.iface 42 (.ref 0 kp 0), .ref 0 km 0, .int .i64 60] O = some (.tup [.bool false, .bool true], O2) ∧
      Ag O O2 [kb, ka, kp] ∧ MemW O2 km kb W' ∧ GI (16 + 128 * p) t W' v (Q ++ [th]) ∧ Pw O2 kp (16 + 128 * p) t th mo := by
  obtain ⟨l0, l1, l2, l3⟩ := lsA_rng g (by omega)
  have hlk : lkA (16 + 128 * p) Q ≠ 16 + 128 * p + th * 2 * 3 ∧ lkA (16 + 128 * p) Q ≠ 16 + 128 * p + (th * 2 + 1) * 3 + 1 := by
    unfold lkA
    by_cases hq : Q = []
    · rw [if_neg (by rw [l3 hq]; omega)]; omega
    · obtain ⟨q, _, e, r1, r2⟩ := l2 hq
      unfold rfA at e
      rw [if_pos (by omega)]; omega
  have R := enter_queue (mo := mo) g.wd h1 h2 g.ins g.fst g.lst (by
    rintro ⟨e1, e2⟩
    cases Q with
    | nil => exact hc ⟨rfl, e2⟩
    | cons q l => have := (g.rng q (by simp)).1; simp only [hdA, rfA] at e1; omega) (by omega) (by omega) l0 l1 (lkA (16 + 128 * p) Q) rfl hlk 47 false
  obtain ⟨O2, ka2, e2, v2, g2⟩ := runE_ok (most := 60) 60 0 false O ka W _ (gp0 mo) _ _ (by omega) (by omega) (n.ge m) R
  exact ⟨O2, _, run31_enter (by omega) (by simpa using e2), v2.ag, g2.M, gi_queue g h1 h2 hn, ⟨ka2, kn, lsA Q, g2.gn⟩⟩
theorem inRun (hp : 1 ≤ p ∧ p ≤ 511) (ht : 1 ≤ t ∧ t ≤ 17) (m : MemW O km kb W) (g : GI (16 + 128 * p) t W v []) {th : Int} (h1 : 0 ≤ th) (h2 : th < t) (v0 : 0 ≤ v) (hc : v < mo) (m1 : 1 ≤ mo) (m2 : mo ≤ 64) {kp ka kn : Nat} (n : Gn O kp ka kn (16 + 128 * p) t th (gp0 mo)) :
    ∃ O2 W', run31S [.iface 42 (.ref 0 kp 0), .ref 0 km 0, .int .i64 60] O = some (.tup [.bool true, .bool false], O2) ∧
      Ag O O2 [kb, ka, kp] ∧ MemW O2 km kb W' ∧ GI (16 + 128 * p) t W' (v + 1) [] ∧ Dp O2 kp (16 + 128 * p) t th := by
  have R := enter_room (mo := mo) g.wd h1 h2 g.ins g.fst v0 hc (by omega) 52 false
  obtain ⟨O2, ka2, e2, v2, g2⟩ := runE_ok (most := 60) 60 0 false O ka W _ (gp0 mo) _ _ (by omega) (by omega) (n.ge m) R
  exact ⟨O2, _, run31_enter (by omega) (by simpa using e2), v2.ag, g2.M, gi_room g h1 h2, ⟨ka2, kn, _, g2.gn, rfl⟩⟩
theorem run_done (m : MemW O km kb W) {b th : Int} {kp : Nat} (h : Dp O kp b t th) : run31S [.iface 42 (.ref 0 kp 0), .ref 0 km 0, .int .i64 60] O = some (.tup [.bool true, .bool false], O) := by
  obtain ⟨ka, kn, q, n, e⟩ := h
  have d := done_enter (n.ge m) (by omega)
  rw [e] at d
  simp only [decide_true] at d
  have c1 : (60 : Int) ≤ 1000 := by omega
  have c2 : (0 : Int) < 60 := by omega
  have c3 : ¬ (0 : Int) < 0 := by omega
  simp only [run31S, if_pos c1, if_true, show Int.toNat 60 = 59 + 1 from rfl, run31E, if_pos c2, if_neg c3, d]
theorem res_done {b th : Int} {kp : Nat} (h : Dp O kp b t th) : enterResS [.ref 0 kp 0] O = some (.int .u64 1, O) := by
  obtain ⟨ka, kn, q, n, e⟩ := h
  have hK := n.K
  unfold gtB at hK
  rw [e] at hK
  simp [enterResS, eoverS, hK]
end

/-! Maps -/
theorem look_put (x y : Int) (k : Nat) : ∀ l, lookI y (putI x k l) = if y = x then some k else lookI y l
  | [] => by
    simp only [putI, lookI]
  | (a, j) :: l => by
    simp only [putI]
    by_cases h : x = a
    · subst h
      rw [if_pos rfl]
      simp only [lookI]
      by_cases h2 : y = x
      · rw [if_pos h2, if_pos h2]
      · rw [if_neg h2, if_neg h2, if_neg h2]
    · rw [if_neg h]
      simp only [lookI]
      by_cases h2 : y = a
      · rw [if_pos h2, if_neg (fun e => h (by omega))]
        simp [h2]
      · rw [if_neg h2, look_put x y k l, if_neg h2]
theorem pigeon : ∀ (n : Nat) (l : List Int), l.Nodup → (∀ x ∈ l, 0 ≤ x ∧ x < n) → l.length ≤ n
  | 0, l, _, h => by
    cases l with
    | nil => simp
    | cons a l => have := h a (by simp); omega
  | n + 1, l, hd, h => by
    have := pigeon n (l.erase (n : Int)) (hd.erase _) (fun x hx => by
      have hx' := (hd.mem_erase_iff.1 hx)
      have := h x hx'.2; have := hx'.1; omega)
    rw [List.length_erase] at this
    split at this <;> omega
theorem wo_len {l : List Int} (h : l.Nodup) {x : Int} (hx : x ∈ l) : (wo l x).length + 1 = l.length := by
  have e : wo l x = l.erase x := by rw [h.erase_eq_filter]; rfl
  have hp := List.length_pos_of_mem hx
  rw [e, List.length_erase_of_mem hx]; omega
theorem wo_sub {l : List Int} {x y : Int} (h : y ∈ wo l x) : y ∈ l ∧ y ≠ x := by
  unfold wo at h
  simpa using h
end Den

/- GateCalls: the loops. -/
set_option maxRecDepth 100000
set_option maxHeartbeats 1000000
set_option linter.unusedSimpArgs false
set_option linter.unusedVariables false
namespace Den
open Go Go.Proofs

theorem GrI.noint {O : Mo} {v : AV} {l : List Int} (h : GrI O v l) : ∀ x, v ≠ .int .i64 x := by
  rcases h with ⟨rfl, rfl⟩ | ⟨k, rfl, hk⟩
  · intro x e; cases e
  · intro x e; cases e
/-- A program lies apart from the reference's cells. -/
theorem Gn.cell {O O' : Mo} {k ka kn kg : Nat} {b t th : Int} {p : GP} {iv qv : AV} (h : Gn O k ka kn b t th p) (hg : O[kg]? = some (.arr [iv, qv])) (hi : ∀ x, iv ≠ .int .i64 x) (g : Ag O O' [kg]) : Gn O' k ka kn b t th p := by
  refine h.ag g ?_ ?_ ?_
  · have : k ≠ kg := ne_get h.K hg (by simp [gtB])
    simpa using this
  · have : ka ≠ kg := ne_get h.A hg (by simp [subB])
    simpa using this
  · have : kn ≠ kg := ne_get h.N.o hg (by intro e; simp at e; exact hi _ e.1.symm)
    simpa using this
theorem Pw.cell {O O' : Mo} {k kg : Nat} {b t th mo : Int} {iv qv : AV} (h : Pw O k b t th mo) (hg : O[kg]? = some (.arr [iv, qv])) (hi : ∀ x, iv ≠ .int .i64 x) (g : Ag O O' [kg]) : Pw O' k b t th mo := by
  obtain ⟨ka, kn, l, h⟩ := h; exact ⟨ka, kn, l, h.cell hg hi g⟩
theorem Dp.cell {O O' : Mo} {k kg : Nat} {b t th : Int} {iv qv : AV} (h : Dp O k b t th) (hg : O[kg]? = some (.arr [iv, qv])) (hi : ∀ x, iv ≠ .int .i64 x) (g : Ag O O' [kg]) : Dp O' k b t th := by
  obtain ⟨ka, kn, p, h, e⟩ := h; exact ⟨ka, kn, p, h.cell hg hi g, e⟩
theorem Pw.other {O O' : Mo} {km kb k k2 ka2 kn2 : Nat} {W : List Int} {b t th th2 mo : Int} {p2 : GP} (h : Pw O k b t th mo) (h2 : Gn O k2 ka2 kn2 b t th2 p2) (m : MemW O km kb W) (hne : th ≠ th2) (g : Ag O O' [kb, ka2, k2]) : Pw O' k b t th mo := by
  obtain ⟨ka, kn, l, h⟩ := h; exact ⟨ka, kn, l, h.other h2 m hne g⟩
theorem Dp.other {O O' : Mo} {km kb k k2 ka2 kn2 : Nat} {W : List Int} {b t th th2 : Int} {p2 : GP} (h : Dp O k b t th) (h2 : Gn O k2 ka2 kn2 b t th2 p2) (m : MemW O km kb W) (hne : th ≠ th2) (g : Ag O O' [kb, ka2, k2]) : Dp O' k b t th := by
  obtain ⟨ka, kn, p, h, e⟩ := h; exact ⟨ka, kn, p, h.other h2 m hne g, e⟩
theorem nodne {Q : List Int} (h : Q.Nodup) {i j : Nat} {a c : Int} (hi : Q[i]? = some a) (hj : Q[j]? = some c) (hne : i ≠ j) : a ≠ c := by
  obtain ⟨h1, e1⟩ := List.getElem?_eq_some_iff.1 hi
  obtain ⟨h2, e2⟩ := List.getElem?_eq_some_iff.1 hj
  intro e
  subst e1 e2
  exact hne ((List.getElem_inj h).1 e)
/-- What stands where. -/
structure CI (O : Mo) (kl km kb kg kw : Nat) (W : List Int) (T : Int) (iv qv : AV) (I Q : List Int) (mp : List (Int × Nat)) : Prop where
  M : MemW O km kb W
  L : O[kl]? = some (.arr [.int .i64 2, .int .i64 T])
  G : O[kg]? = some (.arr [iv, qv])
  gi : GrI O iv I
  gq : GrI O qv Q
  P : O[kw]? = some (.map (encM mp))
section
variable {kl km kb kg kw : Nat} {W W' : List Int} {T mo : Int} {iv qv : AV} {I Q : List Int} {mp : List (Int × Nat)} {O O' : Mo}
theorem CI.run (h : CI O kl km kb kg kw W T iv qv I Q mp) {k ka kn : Nat} {b t th : Int} {p : GP} (n : Gn O k ka kn b t th p) (g : Ag O O' [kb, ka, k]) (m : MemW O' km kb W') : CI O' kl km kb kg kw W' T iv qv I Q mp where
  M := m
  L := by
    have n1 : kl ≠ kb := ne_get h.L h.M.b (by simp)
    have n2 : kl ≠ ka := ne_get h.L n.A (by simp [subB])
    have n3 : kl ≠ k := ne_get h.L n.K (by simp [gtB])
    exact g.get h.L (by simp [n1, n2, n3])
  G := by
    have n1 : kg ≠ kb := ne_get h.G h.M.b (by simp)
    have n2 : kg ≠ ka := ne_get h.G n.A (by simp [subB])
    have n3 : kg ≠ k := ne_get h.G n.K (by simp [gtB])
    exact g.get h.G (by simp [n1, n2, n3])
  gi := h.gi.ag g (own_run h.M n h.gi)
  gq := h.gq.ag g (own_run h.M n h.gq)
  P := by
    have n1 : kw ≠ kb := ne_get h.P h.M.b (by simp)
    have n2 : kw ≠ ka := ne_get h.P n.A (by simp [subB])
    have n3 : kw ≠ k := ne_get h.P n.K (by simp [gtB])
    exact g.get h.P (by simp [n1, n2, n3])
theorem CI.bk (h : CI O kl km kb kg kw W T iv qv I Q mp) (g : Ag O O' [kb]) (m : MemW O' km kb W') : CI O' kl km kb kg kw W' T iv qv I Q mp where
  M := m
  L := by
    have n1 : kl ≠ kb := ne_get h.L h.M.b (by simp)
    exact g.get h.L (by simp [n1])
  G := by
    have n1 : kg ≠ kb := ne_get h.G h.M.b (by simp)
    exact g.get h.G (by simp [n1])
  gi := h.gi.ag g (own_kb h.M h.gi)
  gq := h.gq.ag g (own_kb h.M h.gq)
  P := by
    have n1 : kw ≠ kb := ne_get h.P h.M.b (by simp)
    exact g.get h.P (by simp [n1])
theorem CI.nil (h : CI O kl km kb kg kw W T iv qv I Q mp) (g : Ag O O' []) : CI O' kl km kb kg kw W T iv qv I Q mp :=
  ⟨h.M.ag g (by simp) (by simp), g.get h.L (by simp), g.get h.G (by simp), h.gi.ag g (by simp), h.gq.ag g (by simp), g.get h.P (by simp)⟩
/-- The reference moves on. -/
theorem CI.cell (h : CI O kl km kb kg kw W T iv qv I Q mp) {iv' qv' : AV} {I' Q' : List Int} (h1 : GrI O iv' I') (h2 : GrI O qv' Q') : CI (O.set kg (.arr [iv', qv'])) kl km kb kg kw W T iv' qv' I' Q' mp := by
  have g : Ag O (O.set kg (.arr [iv', qv'])) [kg] := Ag.set _ _ (by simp)
  have ow : ∀ {v : AV} {l : List Int}, GrI O v l → ∀ x ∈ own v, x ∉ [kg] := fun hv x hx => by
    have : x ≠ kg := ne_get (own_get hv x hx) h.G (by simp)
    simpa using this
  refine ⟨h.M.ag g ?_ ?_, g.get h.L ?_, setS h.G, h1.ag g (ow h1), h2.ag g (ow h2), g.get h.P ?_⟩
  · have : km ≠ kg := ne_get h.M.m h.G (by simp)
    simpa using this
  · have : kb ≠ kg := ne_get h.M.b h.G (by simp)
    simpa using this
  · have : kl ≠ kg := ne_get h.L h.G (by intro e; simp at e; exact h.gi.noint _ e.1.symm)
    simpa using this
  · have : kw ≠ kg := ne_get h.P h.G (by simp)
    simpa using this
/-- The map moves on. -/
theorem CI.map (h : CI O kl km kb kg kw W T iv qv I Q mp) (mp' : List (Int × Nat)) : CI (O.set kw (.map (encM mp'))) kl km kb kg kw W T iv qv I Q mp' := by
  have g : Ag O (O.set kw (.map (encM mp'))) [kw] := Ag.set _ _ (by simp)
  have ow : ∀ {v : AV} {l : List Int}, GrI O v l → ∀ x ∈ own v, x ∉ [kw] := fun hv x hx => by
    have : x ≠ kw := ne_get (own_get hv x hx) h.P (by simp)
    simpa using this
  refine ⟨h.M.ag g ?_ ?_, g.get h.L ?_, g.get h.G ?_, h.gi.ag g (ow h.gi), h.gq.ag g (ow h.gq), setS h.P⟩
  · have : km ≠ kw := ne_get h.M.m h.P (by simp)
    simpa using this
  · have : kb ≠ kw := ne_get h.M.b h.P (by simp)
    simpa using this
  · have : kl ≠ kw := ne_get h.L h.P (by simp)
    simpa using this
  · have : kg ≠ kw := ne_get h.G h.P (by simp)
    simpa using this
theorem noArr_kw (h : CI O kl km kb kg kw W T iv qv I Q mp) : noArr O [kw] := fun x hx cs e => by
  simp at hx; subst hx; rw [h.P] at e; cases e
/-- The programs of those who wait. -/
def PQ (O : Mo) (T mo : Int) (Q : List Int) (mp : List (Int × Nat)) : Prop := ∀ x ∈ Q, ∃ k, lookI x mp = some k ∧ Pw O k (16 + 128 * 2) T x mo
/-- Those inside, from one on, may yet have to go in. -/
def PJ (O : Mo) (W : List Int) (T mo : Int) (I : List Int) (mp : List (Int × Nat)) (i : Int) : Prop := ∀ (j : Nat) x, I[j]? = some x → ∀ k, lookI x mp = some k → Dp O k (16 + 128 * 2) T x ∨ (i ≤ j ∧ Pw O k (16 + 128 * 2) T x mo ∧ W[wtA (16 + 128 * 2) x]? = some 0)
def PD (O : Mo) (T : Int) (I : List Int) (mp : List (Int × Nat)) : Prop := ∀ x ∈ I, ∀ k, lookI x mp = some k → Dp O k (16 + 128 * 2) T x
theorem gcIn_ok {i : Int} {cv : AV} {K : Int → Mo → Option (AV × Mo)} (hT : 1 ≤ T ∧ T ≤ 17) (hnd : (I ++ Q).Nodup) (hl : (I.length : Int) ≤ T ∧ (Q.length : Int) ≤ T) (g : GI (16 + 128 * 2) T W I.length Q) :
    ∀ (m : Nat) (k : Int) (O : Mo), 0 ≤ k → k ≤ I.length → (I.length : Int) < k + m → CI O kl km kb kg kw W T iv qv I Q mp → PQ O T mo Q mp → PJ O W T mo I mp k →
    ∃ O', gcIn kl km kg kw T mo cv i K m k O = K (i + 1) O' ∧ CI O' kl km kb kg kw W T iv qv I Q mp ∧ PQ O' T mo Q mp ∧ PD O' T I mp := by
  have hnd1 := (List.nodup_append.1 hnd).1
  have hnd3 := (List.nodup_append.1 hnd).2.2
  intro m
  induction m with
  | zero => intro k O h0 h1 h2; omega
  | succ m ih =>
    intro k O h0 h1 h2 H hq hj
    have c1 : I.length ≤ 1000 := by omega
    by_cases hk : k < (I.length : Int)
    · obtain ⟨x, hx⟩ := get_of_lt (W := I) (i := k.toNat) (by omega)
      have hmem : x ∈ I := List.mem_of_getElem? hx
      cases hlk : lookI x mp with
      | none =>
        obtain ⟨O', e, H', q', d'⟩ := ih (k + 1) O (by omega) (by omega) (by omega) H hq (fun j y hy kp hp => by
          rcases hj j y hy kp hp with h | ⟨a, b, c⟩
          · exact Or.inl h
          · by_cases hjk : j = k.toNat
            · subst hjk; rw [hx] at hy; cases hy; rw [hlk] at hp; cases hp
            · exact Or.inr ⟨by omega, b, c⟩)
        exact ⟨O', by simp only [gcIn, H.G, H.gi.rd, if_pos c1, if_pos hk, if_pos h0, hx, mapI_mk H.P, hlk, e], H', q', d'⟩
      | some kp =>
        rcases hj k.toNat x hx kp hlk with hd | ⟨_, hw, hz⟩
        · have e1 := run_done H.M hd
          obtain ⟨O', e, H', q', d'⟩ := ih (k + 1) O (by omega) (by omega) (by omega) H hq (fun j y hy k2 hp => by
            rcases hj j y hy k2 hp with h | ⟨a, b, c⟩
            · exact Or.inl h
            · by_cases hjk : j = k.toNat
              · subst hjk; rw [hx] at hy; cases hy; rw [hlk] at hp; cases hp; exact Or.inl hd
              · exact Or.inr ⟨by omega, b, c⟩)
          exact ⟨O', by simp only [gcIn, H.G, H.gi.rd, if_pos c1, if_pos hk, if_pos h0, hx, mapI_mk H.P, hlk, e1, e], H', q', d'⟩
        · obtain ⟨O1, ka, kn, l, e1, n1, g1, m1, ka2, n2⟩ := goes (most := 60) H.M hw hz (by omega)
          have H1 := H.run n1 g1 m1
          obtain ⟨O', e, H', q', d'⟩ := ih (k + 1) O1 (by omega) (by omega) (by omega) H1 (fun y hy => by
            obtain ⟨k2, a, b⟩ := hq y hy
            exact ⟨k2, a, b.other n1 H.M (fun e => hnd3 x hmem y hy e.symm) g1⟩) (fun j y hy k2 hp => by
            by_cases hjk : j = k.toNat
            · subst hjk; rw [hx] at hy; cases hy; rw [hlk] at hp; cases hp; exact Or.inl ⟨ka2, kn, _, n2, rfl⟩
            · have hne := nodne hnd1 hy hx hjk
              rcases hj j y hy k2 hp with h | ⟨a, b, c⟩
              · exact Or.inl (h.other n1 H.M hne g1)
              · exact Or.inr ⟨by omega, b.other n1 H.M hne g1, c⟩)
          exact ⟨O', by simp only [gcIn, H.G, H.gi.rd, if_pos c1, if_pos hk, if_pos h0, hx, mapI_mk H.P, hlk, e1, e], H', q', d'⟩
    · obtain ⟨O', e, G⟩ := looks_ok (p := 2) (v := I.length) (qv := qv) H.M g (by omega) hT (by omega) hl.2 (fun O' hO' => (H.gq.ag hO' (by simp)).rd)
      refine ⟨O', by simp only [gcIn, H.G, H.gi.rd, if_pos c1, if_neg hk, H.L, e], H.nil G, fun y hy => ?_, fun y hy k2 hp => ?_⟩
      · obtain ⟨k2, a, b⟩ := hq y hy
        exact ⟨k2, a, b.keep G (noArr_nil _)⟩
      · obtain ⟨j, hj'⟩ := List.mem_iff_getElem?.1 hy
        rcases hj j y hj' k2 hp with h | ⟨a, _, _⟩
        · exact h.keep G (noArr_nil _)
        · have := (List.getElem?_eq_some_iff.1 hj').1; omega
/-- What holds between two calls. -/
structure CS (O : Mo) (kl km kb kg kw : Nat) (W : List Int) (T mo : Int) (iv qv : AV) (I Q : List Int) (mp : List (Int × Nat)) : Prop where
  C : CI O kl km kb kg kw W T iv qv I Q mp
  g : GI (16 + 128 * 2) T W I.length Q
  q : PQ O T mo Q mp
  d : PD O T I mp
  nd : (I ++ Q).Nodup
  rg : ∀ x ∈ I ++ Q, 0 ≤ x ∧ x < T
theorem CS.len (h : CS O kl km kb kg kw W T mo iv qv I Q mp) (hT : 1 ≤ T) : (I.length : Int) + Q.length ≤ T := by
  have := pigeon T.toNat (I ++ Q) h.nd (fun x hx => by have := h.rg x hx; omega)
  simp at this; omega
theorem CS.nil (h : CS O kl km kb kg kw W T mo iv qv I Q mp) (g : Ag O O' []) : CS O' kl km kb kg kw W T mo iv qv I Q mp :=
  ⟨h.C.nil g, h.g, fun x hx => by obtain ⟨k, a, b⟩ := h.q x hx; exact ⟨k, a, b.keep g (noArr_nil _)⟩, fun x hx k hk => (h.d x hx k hk).keep g (noArr_nil _), h.nd, h.rg⟩
end
end Den

/- GateCalls: a call, the law. -/
set_option maxRecDepth 100000
set_option maxHeartbeats 1000000
set_option linter.unusedSimpArgs false
set_option linter.unusedVariables false
namespace Den
open Go Go.Proofs

/-- What holds ahead of those inside going in. -/
structure CT (O : Mo) (kl km kb kg kw : Nat) (W : List Int) (T mo : Int) (iv qv : AV) (I Q : List Int) (mp : List (Int × Nat)) : Prop where
  C : CI O kl km kb kg kw W T iv qv I Q mp
  g : GI (16 + 128 * 2) T W I.length Q
  q : PQ O T mo Q mp
  j : PJ O W T mo I mp 0
  nd : (I ++ Q).Nodup
  rg : ∀ x ∈ I ++ Q, 0 ≤ x ∧ x < T
section
variable {kl km kb kg kw : Nat} {W : List Int} {T mo : Int} {iv qv : AV} {I Q : List Int} {mp : List (Int × Nat)} {O : Mo}
theorem CT.len (h : CT O kl km kb kg kw W T mo iv qv I Q mp) (hT : 1 ≤ T) : (I.length : Int) + Q.length ≤ T := by
  have := pigeon T.toNat (I ++ Q) h.nd (fun x hx => by have := h.rg x hx; omega)
  simp at this; omega
theorem ct_in {i : Int} {cv : AV} {K : Int → Mo → Option (AV × Mo)} (hT : 1 ≤ T ∧ T ≤ 17) (h : CT O kl km kb kg kw W T mo iv qv I Q mp) :
    ∃ O', gcIn kl km kg kw T mo cv i K 1002 0 O = K (i + 1) O' ∧ CS O' kl km kb kg kw W T mo iv qv I Q mp := by
  have hl := h.len hT.1
  obtain ⟨O', e, c, q, d⟩ := gcIn_ok (i := i) (cv := cv) (K := K) hT h.nd (by omega) h.g 1002 0 O (by omega) (by omega) (by omega) h.C h.q h.j
  exact ⟨O', e, ⟨c, h.g, q, d, h.nd, h.rg⟩⟩
theorem wo_nod {l Q : List Int} {x : Int} (h : (l ++ Q).Nodup) : (wo l x ++ Q).Nodup := h.sublist (List.Sublist.append List.filter_sublist (List.Sublist.refl _))
theorem gcLeave_ok (hT : 1 ≤ T ∧ T ≤ 17) {c : Int} (hc : c ∈ I) (R : Mo → Option (AV × Mo)) (h : CS O kl km kb kg kw W T mo iv qv I Q mp) :
    ∃ O' W' iv' qv' I' Q', gcLeave kl km kg c R O = R O' ∧ CT O' kl km kb kg kw W' T mo iv' qv' I' Q' mp := by
  have hl := h.len hT.1
  have hr := h.rg c (by simp [hc])
  have hp := List.length_pos_of_mem hc
  have ndI := (List.nodup_append.1 h.nd).1
  have wl := wo_len ndI hc
  cases Q with
  | nil =>
    obtain ⟨kp, O1, e1, G1, hrun⟩ := leaves_out (p := 2) (by omega) hT h.C.M h.g hr.1 hr.2 (by omega)
    obtain ⟨O2, W', e2, G2, M2, gi, hlW, e3⟩ := hrun O1 (Ag.refl _ _)
    have H2 := h.C.bk G2 M2
    obtain ⟨iv', qv', O3, e4, G4, i4, q4⟩ := rLeave_ok c (by omega) (by simp) H2.gi H2.gq
    have H3 := H2.nil G4
    have A5 : Ag O3 (O3.set kg (.arr [iv', qv'])) [kg] := Ag.set _ _ (by simp)
    refine ⟨O3.set kg (.arr [iv', qv']), W', iv', qv', wo I c, [], ?_, H3.cell i4 q4, ?_, fun x hx => by simp at hx, ?_, ?_, ?_⟩
    · simp only [gcLeave, h.C.L, e1, e2, e3, if_true, H2.G, e4, H3.G, i4.rd, q4.rd]
    · rw [show ((wo I c).length : Int) = I.length - 1 by omega]; exact gi
    · intro j x hx k hk
      have hx' := (wo_sub (List.mem_of_getElem? hx)).1
      exact Or.inl ((((h.d x hx' k hk).keep G2 (noArr_kb h.C.M)).keep G4 (noArr_nil _)).cell H3.G H3.gi.noint A5)
    · exact wo_nod h.nd
    · intro x hx
      simp only [List.append_nil] at hx
      exact h.rg x (by simp [(wo_sub hx).1])
  | cons q Q =>
    simp only [List.length_cons] at hl
    obtain ⟨kp, O1, e1, G1, hrun⟩ := leaves_next (p := 2) (by omega) hT h.C.M h.g hr.1 hr.2
    obtain ⟨O2, W', e2, G2, M2, gi, hw, hlW, e3⟩ := hrun O1 (Ag.refl _ _)
    have H2 := h.C.bk G2 M2
    obtain ⟨iv', qv', O3, e4, G4, i4, q4⟩ := rLeave_ok c (by omega) (by simp; omega) H2.gi H2.gq
    have H3 := H2.nil G4
    have A5 : Ag O3 (O3.set kg (.arr [iv', qv'])) [kg] := Ag.set _ _ (by simp)
    have kpw : ∀ {k : Nat} {y : Int}, Pw O k (16 + 128 * 2) T y mo → Pw (O3.set kg (.arr [iv', qv'])) k (16 + 128 * 2) T y mo := fun hh =>
      ((hh.keep G2 (noArr_kb h.C.M)).keep G4 (noArr_nil _)).cell H3.G H3.gi.noint A5
    refine ⟨O3.set kg (.arr [iv', qv']), W', iv', qv', wo I c ++ [q], Q, ?_, H3.cell i4 q4, ?_, ?_, ?_, ?_, ?_⟩
    · simp only [gcLeave, h.C.L, e1, e2, e3, if_true, H2.G, e4, H3.G, i4.rd, q4.rd]
    · rw [show ((wo I c ++ [q]).length : Int) = I.length by simp; omega]; exact gi
    · intro x hx
      obtain ⟨k, a, b⟩ := h.q x (by simp [hx])
      exact ⟨k, a, kpw b⟩
    · intro j x hx k hk
      have hx' := List.mem_of_getElem? hx
      simp only [List.mem_append, List.mem_singleton] at hx'
      rcases hx' with hx' | rfl
      · exact Or.inl ((((h.d x (wo_sub hx').1 k hk).keep G2 (noArr_kb h.C.M)).keep G4 (noArr_nil _)).cell H3.G H3.gi.noint A5)
      · obtain ⟨k2, a, b⟩ := h.q x (by simp)
        rw [hk] at a; cases a
        exact Or.inr ⟨by omega, kpw b, hw⟩
    · have := wo_nod (x := c) h.nd
      simpa using this
    · intro x hx
      simp only [List.mem_append, List.mem_singleton] at hx
      rcases hx with (hx | rfl) | hx
      · exact h.rg x (by simp [(wo_sub hx).1])
      · exact h.rg x (by simp)
      · exact h.rg x (by simp [hx])
theorem gcEnter_ok (hT : 1 ≤ T ∧ T ≤ 17) (hm : 1 ≤ mo ∧ mo ≤ 64) {c : Int} (h0 : 0 ≤ c) (h1 : c < T) (hi : c ∉ I) (hq : c ∉ Q) (R : Mo → Option (AV × Mo)) (h : CS O kl km kb kg kw W T mo iv qv I Q mp) :
    ∃ O' W' iv' qv' I' Q' mp', gcEnter kl km kg kw c mo R O = R O' ∧ CT O' kl km kb kg kw W' T mo iv' qv' I' Q' mp' := by
  have hl := h.len hT.1
  obtain ⟨O1, e1, G1, n1⟩ := newEnter_ok O 2 T c mo (by omega) hT h0 h1 hm.1 hm.2
  have e1' : enter31S [.agg [.int .i64 2, .int .i64 T], .int .i64 c, .int .i64 mo] O = some (.ref 0 (O.length + 2) 0, O1) := by simp only [enter31S, e1, if_true]
  generalize hkp : O.length + 2 = kp at n1 e1'
  generalize hka : O.length + 1 = ka at n1
  have H1 := h.C.nil G1
  obtain ⟨iv', qv', O2, e2, G2, i2, q2⟩ := rEnter_ok c mo (by omega) (by omega) H1.gi H1.gq
  have H2 := H1.nil G2
  have n2 := n1.keep G2 (noArr_nil _)
  have A3 : Ag O2 (O2.set kg (.arr [iv', qv'])) [kg] := Ag.set _ _ (by simp)
  have n3 := n2.cell H2.G H2.gi.noint A3
  have H3 := H2.cell i2 q2
  generalize hO3 : O2.set kg (.arr [iv', qv']) = O3 at A3 n3 H3
  have pw3 : ∀ {k : Nat} {y : Int}, Pw O k (16 + 128 * 2) T y mo → Pw O3 k (16 + 128 * 2) T y mo := fun hh =>
    ((hh.keep G1 (noArr_nil _)).keep G2 (noArr_nil _)).cell H2.G H2.gi.noint A3
  have dp3 : ∀ {k : Nat} {y : Int}, Dp O k (16 + 128 * 2) T y → Dp O3 k (16 + 128 * 2) T y := fun hh =>
    ((hh.keep G1 (noArr_nil _)).keep G2 (noArr_nil _)).cell H2.G H2.gi.noint A3
  by_cases hc : Q = [] ∧ (I.length : Int) < mo
  · rw [if_pos hc] at i2 q2 H3
    rw [if_pos hc] at H3
    have hQ := hc.1
    subst hQ
    obtain ⟨O4, W', e4, G4, M4, gi, d4⟩ := inRun (p := 2) (by omega) hT H3.M h.g h0 h1 (by omega) hc.2 hm.1 hm.2 n3
    have H4 := H3.run n3 G4 M4
    obtain ⟨O5, e5, G5⟩ := has_ok c (by simp; omega) H4.gi
    have H5 := H4.nil G5
    have d5 := d4.keep G5 (noArr_nil _)
    have e6 := res_done d5
    have A7 : Ag O5 (O5.set kw (.map (encM (putI c kp mp)))) [kw] := Ag.set _ _ (by simp)
    refine ⟨O5.set kw (.map (encM (putI c kp mp))), W', iv', qv', I ++ [c], [], putI c kp mp, ?_, H5.map _, ?_, fun x hx => by simp at hx, ?_, ?_, ?_⟩
    · have hin : decide (c ∈ I ++ [c]) = true := by simp
      rw [hin] at e5
      simp only [gcEnter, h.C.L, e1', H1.G, e2, H2.G, i2.rd, q2.rd, hO3, e4, H4.G, e5, e6, if_true, mapI_mk H5.P]
    · rw [show ((I ++ [c]).length : Int) = I.length + 1 by simp]; exact gi
    · intro j x hx k hk
      have hx' := List.mem_of_getElem? hx
      rw [look_put] at hk
      simp only [List.mem_append, List.mem_singleton] at hx'
      by_cases hxc : x = c
      · subst hxc
        rw [if_pos rfl] at hk; cases hk
        exact Or.inl (d5.keep A7 (noArr_kw H5))
      · rw [if_neg hxc] at hk
        have hx2 : x ∈ I := by rcases hx' with h | h; exact h; exact absurd h hxc
        exact Or.inl ((((dp3 (h.d x hx2 k hk)).other n3 H3.M hxc G4).keep G5 (noArr_nil _)).keep A7 (noArr_kw H5))
    · rw [List.append_nil, List.nodup_append]
      refine ⟨(List.nodup_append.1 h.nd).1, by simp, fun a ha b hb => ?_⟩
      simp at hb; subst hb
      intro e; subst e; exact hi ha
    · intro x hx
      simp only [List.append_nil, List.mem_append, List.mem_singleton] at hx
      rcases hx with hx | rfl
      · exact h.rg x (by simp [hx])
      · exact ⟨h0, h1⟩
  · rw [if_neg hc] at i2 q2 H3
    rw [if_neg hc] at H3
    obtain ⟨O4, W', e4, G4, M4, gi, d4⟩ := waitRun (p := 2) (mo := mo) (by omega) hT H3.M h.g h0 h1 hq hc hm.1 hm.2 n3
    have H4 := H3.run n3 G4 M4
    obtain ⟨O5, e5, G5⟩ := has_ok c (by omega) H4.gi
    have H5 := H4.nil G5
    have A7 : Ag O5 (O5.set kw (.map (encM (putI c kp mp)))) [kw] := Ag.set _ _ (by simp)
    refine ⟨O5.set kw (.map (encM (putI c kp mp))), W', iv', qv', I, Q ++ [c], putI c kp mp, ?_, H5.map _, gi, ?_, ?_, ?_, ?_⟩
    · have hin : decide (c ∈ I) = false := by simp [hi]
      rw [hin] at e5
      simp only [gcEnter, h.C.L, e1', H1.G, e2, H2.G, i2.rd, q2.rd, hO3, e4, H4.G, e5, if_true, mapI_mk H5.P]
    · intro x hx
      rw [look_put]
      by_cases hxc : x = c
      · subst hxc
        exact ⟨kp, by rw [if_pos rfl], (d4.keep G5 (noArr_nil _)).keep A7 (noArr_kw H5)⟩
      · rw [if_neg hxc]
        have hx2 : x ∈ Q := by
          simp only [List.mem_append, List.mem_singleton] at hx
          rcases hx with h | h; exact h; exact absurd h hxc
        obtain ⟨k, a, b⟩ := h.q x hx2
        exact ⟨k, a, (((pw3 b).other n3 H3.M hxc G4).keep G5 (noArr_nil _)).keep A7 (noArr_kw H5)⟩
    · intro j x hx k hk
      have hx' := List.mem_of_getElem? hx
      have hxc : x ≠ c := fun e => hi (e ▸ hx')
      rw [look_put, if_neg hxc] at hk
      exact Or.inl ((((dp3 (h.d x hx' k hk)).other n3 H3.M hxc G4).keep G5 (noArr_nil _)).keep A7 (noArr_kw H5))
    · rw [← List.append_assoc, List.nodup_append]
      refine ⟨h.nd, by simp, fun a ha b hb => ?_⟩
      simp at hb; subst hb
      intro e; subst e
      simp only [List.mem_append] at ha
      rcases ha with ha | ha
      · exact hi ha
      · exact hq ha
    · intro x hx
      rw [← List.append_assoc] at hx
      simp only [List.mem_append, List.mem_singleton] at hx
      rcases hx with hx | rfl
      · exact h.rg x (by simpa using hx)
      · exact ⟨h0, h1⟩
end
theorem gcOut_ok {kl km kb kg kw : Nat} {T mo : Int} {cv : AV} {cl : List Int} (hT : 1 ≤ T ∧ T ≤ 17) (hm : 1 ≤ mo ∧ mo ≤ 64) (hcl : cl.length ≤ 30) (hcr : ∀ x ∈ cl, 0 ≤ x ∧ x ≤ 255) (hcv : ∀ O, rd8 O cv = some cl) :
    ∀ (m : Nat) (i : Int) (O : Mo) (W : List Int) (iv qv : AV) (I Q : List Int) (mp : List (Int × Nat)), 0 ≤ i → i ≤ cl.length → (cl.length : Int) < i + m → CS O kl km kb kg kw W T mo iv qv I Q mp →
    ∃ O', gcOut kl km kg kw T mo cv m i O = some (.bool true, O') := by
  intro m
  induction m with
  | zero => intro i O W iv qv I Q mp h0 h1 h2; omega
  | succ m ih =>
    intro i O W iv qv I Q mp h0 h1 h2 H
    have c1 : cl.length ≤ 1000 := by omega
    have hl := H.len hT.1
    by_cases hi : i < (cl.length : Int)
    · obtain ⟨x, hx⟩ := get_of_lt (W := cl) (i := i.toNat) (by omega)
      have hxr := hcr x (List.mem_of_getElem? hx)
      have t0 := Int.emod_nonneg x (show T ≠ 0 by omega)
      have t1 := Int.emod_lt_of_pos x (show 0 < T by omega)
      generalize hc : x % T = c at t0 t1
      obtain ⟨Oa, e1, G1⟩ := has_ok c (l := Q) (by omega) H.C.gq
      have H1 := H.nil G1
      by_cases hq : c ∈ Q
      · rw [decide_eq_true hq] at e1
        obtain ⟨O', e2⟩ := ih (i + 1) Oa W iv qv I Q mp (by omega) (by omega) (by omega) H1
        exact ⟨O', by simp only [gcOut, hcv, if_pos c1, if_pos hi, if_pos h0, hx, if_pos hxr, H.C.G, hc, e1, e2]⟩
      · rw [decide_eq_false hq] at e1
        obtain ⟨Ob, e2, G2⟩ := has_ok c (l := I) (by omega) H1.C.gi
        have H2 := H1.nil G2
        by_cases hin : c ∈ I
        · rw [decide_eq_true hin] at e2
          obtain ⟨O3, W', iv', qv', I', Q', e3, ct⟩ := gcLeave_ok hT hin (fun Oc => gcIn kl km kg kw T mo cv i (fun i O => gcOut kl km kg kw T mo cv m i O) 1002 0 Oc) H2
          obtain ⟨O4, e4, cs⟩ := ct_in (i := i) (cv := cv) (K := fun i O => gcOut kl km kg kw T mo cv m i O) hT ct
          obtain ⟨O', e5⟩ := ih (i + 1) O4 _ _ _ _ _ _ (by omega) (by omega) (by omega) cs
          exact ⟨O', by simp only [gcOut, hcv, if_pos c1, if_pos hi, if_pos h0, hx, if_pos hxr, H.C.G, hc, e1, H1.C.G, e2, e3, e4, e5]⟩
        · rw [decide_eq_false hin] at e2
          obtain ⟨O3, W', iv', qv', I', Q', mp', e3, ct⟩ := gcEnter_ok hT hm t0 t1 hin hq (fun Oc => gcIn kl km kg kw T mo cv i (fun i O => gcOut kl km kg kw T mo cv m i O) 1002 0 Oc) H2
          obtain ⟨O4, e4, cs⟩ := ct_in (i := i) (cv := cv) (K := fun i O => gcOut kl km kg kw T mo cv m i O) hT ct
          obtain ⟨O', e5⟩ := ih (i + 1) O4 _ _ _ _ _ _ (by omega) (by omega) (by omega) cs
          exact ⟨O', by simp only [gcOut, hcv, if_pos c1, if_pos hi, if_pos h0, hx, if_pos hxr, H.C.G, hc, e1, H1.C.G, e2, e3, e4, e5]⟩
    · exact ⟨O, by simp only [gcOut, hcv, if_pos c1, if_neg hi, known31S]⟩
theorem gcallsS_true (T mo : Int) (cv : AV) (cl : List Int) (hT : 0 ≤ T ∧ T ≤ 255) (hm : 0 ≤ mo ∧ mo ≤ 255) (hcr : ∀ x ∈ cl, 0 ≤ x ∧ x ≤ 255) (hcv : ∀ O, rd8 O cv = some cl) : ∃ O', gcallsS [.int .u8 T, .int .u8 mo, cv] [] = some (.bool true, O') := by
  have c0 : 0 ≤ T ∧ T ≤ 255 ∧ 0 ≤ mo ∧ mo ≤ 255 := by omega
  by_cases c1 : T < 1
  · exact ⟨[], by simp only [gcallsS, if_pos c0, hcv, if_pos c1, gcK, known31S]⟩
  by_cases c2 : 6 < T
  · exact ⟨[], by simp only [gcallsS, if_pos c0, hcv, if_neg c1, if_pos c2, gcK, known31S]⟩
  by_cases c3 : mo < 1
  · exact ⟨[], by simp only [gcallsS, if_pos c0, hcv, if_neg c1, if_neg c2, if_pos c3, gcK, known31S]⟩
  by_cases c4 : 6 < mo
  · exact ⟨[], by simp only [gcallsS, if_pos c0, hcv, if_neg c1, if_neg c2, if_neg c3, if_pos c4, gcK, known31S]⟩
  by_cases c5 : 30 < (cl.length : Int)
  · exact ⟨[], by simp only [gcallsS, if_pos c0, hcv, if_neg c1, if_neg c2, if_neg c3, if_neg c4, if_pos c5, gcK, known31S]⟩
  obtain ⟨km, kb, O1, W, e1, M1, w1, G1, L1, L2⟩ := format_ok ([] ++ [.arr [.int .i64 2, .int .i64 T]]) 2 T (by omega) (by omega)
  have hL : O1[0]? = some (.arr [.int .i64 2, .int .i64 T]) := G1.get (by rfl) (by simp)
  have g : GI (16 + 128 * 2) T W 0 [] := by
    have D := fmt_wd (p := 2) (by omega) (by omega) w1
    refine ⟨D, ?_, ?_, ?_, trivial, fun q hq => by simp at hq, List.nodup_nil, fun q hq => by simp at hq⟩
    · rw [w1.get 13 (by omega), fmtG_mid (by omega) (by omega)]
    · rw [w1.get 14 (by omega), fmtG_mid (by omega) (by omega)]; rfl
    · rw [w1.get 15 (by omega), fmtG_mid (by omega) (by omega)]; rfl
  have A2 : Ag O1 (O1 ++ [ABlk.arr [.nils, .nils]] ++ [ABlk.map []]) [] := (Ag.app _ _ _).trans (Ag.app _ _ _)
  obtain ⟨O', e2⟩ := gcOut_ok (kl := 0) (km := km) (kb := kb) (kg := O1.length) (kw := (O1 ++ [ABlk.arr [.nils, .nils]]).length) (T := T) (mo := mo) (cv := cv) (cl := cl) (by omega) (by omega) (by omega) hcr hcv 50 0 _ W .nils .nils [] [] [] (by omega) (by omega) (by omega)
    { C := ⟨M1.ag A2 (by simp) (by simp), A2.get hL (by simp), app_get (app_last _ _), Or.inl ⟨rfl, rfl⟩, Or.inl ⟨rfl, rfl⟩, app_last _ _⟩
      g := g
      q := fun x hx => by simp at hx
      d := fun x hx => by simp at hx
      nd := List.nodup_nil
      rg := fun x hx => by simp at hx }
  refine ⟨O', ?_⟩
  simp only [gcallsS, if_pos c0, hcv, if_neg c1, if_neg c2, if_neg c3, if_neg c4, if_neg c5, e1, if_true, List.length_nil]
  exact e2
theorem shp_u8s {cs : List AV} (h : Shp (.slice (.int .u8)) cs) : ∃ (v : AV) (l : List Int), cs = [v] ∧ (∀ x ∈ l, 0 ≤ x ∧ x ≤ 255) ∧ ∀ O, rd8 O v = some l := by
  rcases h with rfl | ⟨L, rfl, _, hL⟩
  · exact ⟨.nils, [], rfl, fun x hx => by simp at hx, fun O => rfl⟩
  · have : ∀ L : List (List AV), (∀ x ∈ L, Shp (.int .u8) x) → ∃ l : List Int, L.flatten = enc8 l ∧ l.length = L.length ∧ ∀ x ∈ l, 0 ≤ x ∧ x ≤ 255 := by
      intro L
      induction L with
      | nil => intro _; exact ⟨[], rfl, rfl, fun x hx => by simp at hx⟩
      | cons x L ih =>
        intro hx
        obtain ⟨l, e, hl, hr⟩ := ih (fun y hy => hx y (by simp [hy]))
        obtain ⟨n, rfl, w⟩ := hx x (by simp)
        refine ⟨n :: l, by rw [List.flatten_cons, e]; rfl, by simp [hl], fun y hy => ?_⟩
        simp only [List.mem_cons] at hy
        rcases hy with rfl | hy
        · simp [Lit.wf, IntKind.min, IntKind.max, IntKind.signed, IntKind.bits] at w; omega
        · exact hr y hy
    obtain ⟨l, e, hl, hr⟩ := this L hL
    exact ⟨_, l, rfl, hr, fun O => by rw [e, ← hl]; exact rd8_isl O l⟩
/-- The law. -/
theorem gateCalls_law (a0 a1 a2 : List AV) (s0 : Shp (.int .u8) a0) (s1 : Shp (.int .u8) a1) (s2 : Shp (.slice (.int .u8)) a2) :
    ∃ O' S', CallOk Tryz.prog 3 [parV (.int .u8) a0, parV (.int .u8) a1, parV (.slice (.int .u8)) a2] [] [] (.bool true) O' S' := by
  obtain ⟨x, rfl, w0⟩ := s0
  obtain ⟨y, rfl, w1⟩ := s1
  obtain ⟨v, l, rfl, hr, hv⟩ := shp_u8s s2
  have b0 : 0 ≤ x ∧ x ≤ 255 := by simp [Lit.wf, IntKind.min, IntKind.max, IntKind.signed, IntKind.bits] at w0; omega
  have b1 : 0 ≤ y ∧ y ≤ 255 := by simp [Lit.wf, IntKind.min, IntKind.max, IntKind.signed, IntKind.bits] at w1; omega
  obtain ⟨O', h⟩ := gcallsS_true x y v l b0 b1 hr hv
  exact ⟨O', [], gcallsS_ok _ [] _ _ h []⟩
end Den
