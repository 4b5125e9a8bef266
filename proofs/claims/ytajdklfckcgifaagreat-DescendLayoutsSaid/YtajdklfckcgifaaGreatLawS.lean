/- DescendLayouts: an arena that was formatted, opened, counted, read. -/
import Derived.Test.YtajdklfckcgifaaGreatLayS
import Derived.Test.YtajdklfckcgifaaGreatAbsS
import Derived.Test.YtajdklfckcgifaaGreatDenArgs
set_option maxRecDepth 100000
set_option maxHeartbeats 1000000
set_option linter.unusedSimpArgs false
set_option linter.unusedVariables false
namespace Den
open Go Go.Proofs

/-- An arena of p pages, that was formatted. -/
structure AR (O : Mo) (ka kc kb : Nat) (W : List Int) (p : Int) (n : Nat) : Prop where
  a : O[ka]? = some (.arr [.ref 0 kc 0])
  m : MemW O kc kb W
  w : Wg W n (fmtG p)
  hp : 1 ≤ p ∧ p ≤ 511
  hn : 16 + 128 * p ≤ n
theorem AR.ag {O O' : Mo} {ka kc kb : Nat} {W : List Int} {p : Int} {n : Nat} {l : List Nat} (h : AR O ka kc kb W p n) (g : Ag O O' l) (h1 : ka ∉ l) (h2 : kc ∉ l) (h3 : kb ∉ l) : AR O' ka kc kb W p n :=
  ⟨g.get h.a h1, h.m.ag g h2 h3, h.w, h.hp, h.hn⟩
section
variable {O : Mo} {ka kc kb : Nat} {W : List Int} {p : Int} {n : Nat}
theorem AR.get (h : AR O ka kc kb W p n) (i : Int) (h0 : 0 ≤ i) (h1 : i < n) : wgetS [.agg [.ref 0 kc 0], .int .i64 i] O = some (.int .u64 (fmtG p i.toNat), O) :=
  wget_ok h.m h0 (h.w.get i.toNat (by omega))
theorem fmtG_kind {p q : Int} (hp : 1 ≤ p ∧ p ≤ 511) (h1 : 1 ≤ q) (h2 : q ≤ p) : fmtG p (16 + 128 * (q - 1) + 8).toNat = if q = 1 then 1 else 0 := by
  unfold fmtG fmtP fmtL w0
  by_cases e : q = 1
  · subst e; simp
  · rw [if_neg e, if_neg (by omega), if_neg (by omega), if_neg (by omega), if_neg (by omega), if_neg (by omega), if_neg (by omega), if_neg (by omega)]
theorem fmtG_next {p q : Int} (hp : 1 ≤ p ∧ p ≤ 511) (h1 : 2 ≤ q) (h2 : q ≤ p) : fmtG p (16 + 128 * (q - 1) + 10).toNat = if q < p then q + 1 else 0 := by
  unfold fmtG fmtP fmtL w0
  rw [if_neg (by omega), if_neg (by omega), if_neg (by omega), if_neg (by omega), if_neg (by omega), if_neg (by omega)]
  by_cases e : q < p
  · rw [if_pos e, if_pos (by omega)]; omega
  · rw [if_neg e, if_neg (by omega)]
theorem AR.none (h : AR O ka kc kb W p n) : anoneS [.ref 0 ka 0] O = some (.bool false, O) := by simp only [anoneS, h.a]
theorem AR.pages (h : AR O ka kc kb W p n) : apagesS [.ref 0 ka 0] O = some (.int .i64 p, O) := by
  have hp := h.hp
  have e := h.get 0 (by omega) (by have := h.hn; omega)
  rw [show fmtG p (0 : Int).toNat = p from rfl] at e
  simp only [apagesS, h.a, e, if_pos (show 0 ≤ p ∧ p ≤ 1000 by omega)]
theorem AR.kind (h : AR O ka kc kb W p n) {q : Int} (h1 : 1 ≤ q) (h2 : q ≤ p) : akindS [.ref 0 ka 0, .int .i64 q] O = some (.int .u64 (if q = 1 then 1 else 0), O) := by
  have hp := h.hp
  have hn := h.hn
  have e := h.get (16 + 128 * (q - 1) + 8) (by omega) (by omega)
  rw [fmtG_kind hp h1 h2] at e
  simp only [akindS, h.a, if_pos (show 0 ≤ q ∧ q ≤ 1000 by omega), e]
theorem AR.used1 (h : AR O ka kc kb W p n) : ausedS [.ref 0 ka 0, .int .i64 1] O = some (.bool true, O) := by
  have e := h.kind (q := 1) (by omega) h.hp.1
  rw [if_pos rfl] at e
  simp only [ausedS, e, if_pos (show (1 : Int) ≤ 1 by omega), if_pos (show (1 : Int) ≤ 6 by omega)]
theorem AR.root (h : AR O ka kc kb W p n) : arootS [.ref 0 ka 0] O = some (.int .i64 1, O) := by
  have hp := h.hp
  have e := h.get 3 (by omega) (by have := h.hn; omega)
  rw [show fmtG p (3 : Int).toNat = 1 from rfl] at e
  simp only [arootS, h.none, h.a, e, if_pos (show (0 : Int) ≤ 1 ∧ (1 : Int) ≤ 1000 by omega)]
theorem AR.there1 (h : AR O ka kc kb W p n) : athereS [.ref 0 ka 0, .int .i64 1] O = some (.int .i64 0, O) := by
  simp only [athereS, h.none, if_neg (show ¬ (1 : Int) < 1 by omega), h.pages, if_neg (show ¬ p < 1 by have := h.hp; omega)]
/-- Counts. -/
theorem AR.countsG (h : AR O ka kc kb W p n) : ∀ (m : Nat) (q : Int), 1 ≤ q → q ≤ p + 1 → p + 1 < q + m → acountsG ka m q (if q = 1 then 0 else q - 2) (if q = 1 then 0 else 1) 0 O = some (.tup [.int .i64 p, .int .i64 (p - 1), .int .i64 1, .int .i64 0], O) := by
  intro m
  have hp := h.hp
  induction m with
  | zero => intro q h0 h1 h2; omega
  | succ m ih =>
    intro q h0 h1 h2
    have ih' := fun hq => ih (q + 1) (by omega) hq (by omega)
    rw [if_neg (show ¬ q + 1 = 1 by omega), if_neg (show ¬ q + 1 = 1 by omega)] at ih'
    by_cases hq : q ≤ p
    · have hk := h.kind h0 hq
      by_cases e : q = 1
      · subst e
        rw [if_pos rfl] at hk ⊢
        rw [if_pos rfl]
        have := ih' (by omega)
        rw [acountsG, if_pos (show 0 ≤ (1 : Int) ∧ (1 : Int) ≤ 1000 ∧ (0 : Int) ≤ 0 ∧ (0 : Int) ≤ 1000 ∧ (0 : Int) ≤ 0 ∧ (0 : Int) ≤ 1000 ∧ (0 : Int) ≤ 0 ∧ (0 : Int) ≤ 1000 by omega)]
        simp only [h.pages, if_pos hq, hk, if_neg (show ¬ (1 : Int) = 0 by omega), if_neg (show ¬ (1 : Int) = 255 by omega), h.used1]
        exact this
      · rw [if_neg e] at hk
        rw [if_neg e, if_neg e]
        have := ih' (by omega)
        rw [acountsG, if_pos (by omega)]
        simp only [h.pages, if_pos hq, hk, if_true]
        rw [show q - 2 + 1 = q + 1 - 2 by omega]
        exact this
    · obtain rfl : q = p + 1 := by omega
      rw [if_neg (show ¬ p + 1 = 1 by omega), if_neg (show ¬ p + 1 = 1 by omega), acountsG, if_pos (by omega)]
      simp only [h.pages, if_neg hq]
      rw [show p + 1 - 2 = p - 1 by omega]
theorem AR.counts (h : AR O ka kc kb W p n) : acountsS [.ref 0 ka 0] O = some (.tup [.int .i64 p, .int .i64 (p - 1), .int .i64 1, .int .i64 0], O) := by
  have := h.countsG 1002 1 (by omega) (by have := h.hp; omega) (by have := h.hp; omega)
  simp only [if_true] at this
  simp only [acountsS, h.none, this]
end
/-- The free pages, one behind the other. -/
theorem listG_ok {ka kc kb : Nat} {W : List Int} {p : Int} {n : Nat} {B : Mo} : ∀ (m : Nat) (j : Nat) (lv : AV) (l : List Int) (O : Mo), AR O ka kc kb W p n → l.length = j → (j : Int) ≤ p - 1 → p - 1 < j + m → GrI O lv l → Ag B O [] → (∀ x ∈ own lv, B.length ≤ x) → ka < B.length → kc < B.length → kb < B.length →
    ∃ O' lv' l', alistG ka 0 m lv (if (j : Int) + 2 ≤ p then j + 2 else 0) O = some (.tup [lv', .bool true], O') ∧ rdI O' lv' = some l' ∧ (l'.length : Int) = p - 1 ∧ Ag B O' [] := by
  intro m
  induction m with
  | zero => intro j lv l O H hl h0 h1; omega
  | succ m ih =>
    intro j lv l O H hl h0 h1 G g ho b1 b2 b3
    have hp := H.hp
    by_cases hj : (j : Int) + 2 ≤ p
    · rw [if_pos hj]
      have hk := H.kind (q := (j : Int) + 2) (by omega) hj
      rw [if_neg (by omega)] at hk
      obtain ⟨v2, O2, e2, G2, l2, a2, o2⟩ := grow_ok (m := [(j : Int) + 2]) G (by omega) (by simp)
      have lb : B.length ≤ O.length := g.1
      have g2 : Ag O O2 (own lv) := ⟨l2, a2⟩
      have H2 : AR O2 ka kc kb W p n := H.ag g2 (fun hx => by have := ho _ hx; omega) (fun hx => by have := ho _ hx; omega) (fun hx => by have := ho _ hx; omega)
      have gB : Ag B O2 [] := ⟨by omega, fun i hi _ => by
        rw [a2 i (by omega) (fun hx => by have := ho _ hx; omega)]; exact g.2 i hi (by simp)⟩
      have hnx := H2.get (16 + 128 * ((j : Int) + 2 - 1) + 10) (by omega) (by have := H.hn; omega)
      rw [fmtG_next hp (by omega) hj] at hnx
      obtain ⟨O', lv', l', e3, r3, n3, g3⟩ := ih (j + 1) v2 (l ++ [(j : Int) + 2]) O2 H2 (by simp [hl]) (by omega) (by omega) G2 gB (fun x hx => by
        rcases o2 with e | e
        · rw [e] at hx; exact ho x hx
        · rw [e] at hx; simp at hx; omega) b1 b2 b3
      refine ⟨O', lv', l', ?_, r3, n3, g3⟩
      have e4 : (if ((j + 1 : Nat) : Int) + 2 ≤ p then (((j + 1 : Nat) : Int) + 2) else 0) = if (j : Int) + 2 < p then (j : Int) + 2 + 1 else 0 := by
        by_cases e : (j : Int) + 2 < p
        · rw [if_pos e, if_pos (by omega)]; omega
        · rw [if_neg e, if_neg (by omega)]
      rw [e4] at e3
      have c1 : ¬ (j : Int) + 2 = 0 := by omega
      have c2 : 0 ≤ p ∧ p ≤ 1000 := by omega
      have c3 : 1 ≤ (j : Int) + 2 ∧ (j : Int) + 2 ≤ p := by omega
      have c4 : l.length ≤ 1000 := by omega
      have c5 : (l.length : Int) ≠ p := by omega
      conv => lhs; unfold alistG
      rw [if_neg c1]
      simp only [H.pages, if_pos c2, if_pos c3, G.rd, if_pos c4, if_pos c5, hk, if_true, e2, H2.a, hnx]
      exact e3
    · rw [if_neg hj]
      refine ⟨O, lv, l, ?_, G.rd, by omega, g⟩
      conv => lhs; unfold alistG
      rw [if_pos rfl]
      rcases G with ⟨rfl, _⟩ | ⟨k, rfl, _⟩ <;> rfl
section
variable {O : Mo} {ka kc kb : Nat} {W : List Int} {p : Int} {n : Nat}
theorem AR.lt (h : AR O ka kc kb W p n) : ka < O.length ∧ kc < O.length ∧ kb < O.length := ⟨lt_of_get h.a, lt_of_get h.m.m, lt_of_get h.m.b⟩
theorem AR.sound (h : AR O ka kc kb W p n) : ∃ O', asoundS [.ref 0 ka 0] O = some (.bool true, O') ∧ Ag O O' [] := by
  have hp := h.hp
  have hn := h.hn
  obtain ⟨q1, q2, q3⟩ := h.lt
  have w1 := h.get 1 (by omega) (by omega)
  obtain ⟨O1, lv, l, e1, r1, n1, g1⟩ := listG_ok (B := O) 1002 0 .nils [] O h rfl (by omega) (by omega) (Or.inl ⟨rfl, rfl⟩) (Ag.refl _ _) (fun x hx => by simp [own] at hx) q1 q2 q3
  have e0 : fmtG p (1 : Int).toNat = if ((0 : Nat) : Int) + 2 ≤ p then ((0 : Nat) : Int) + 2 else 0 := by
    show (if 1 < p then 2 else 0) = _
    by_cases e : 1 < p
    · rw [if_pos e, if_pos (by omega)]; rfl
    · rw [if_neg e, if_neg (by omega)]
  have f1 : alistS [.ref 0 ka 0, .int .i64 1, .int .u64 0] O = some (.tup [lv, .bool true], O1) := by
    simp only [alistS, h.a, w1, e0]; exact e1
  have H1 := h.ag g1 (by simp) (by simp) (by simp)
  have w2 := H1.get 2 (by omega) (by omega)
  rw [show fmtG p (2 : Int).toNat = 0 from rfl] at w2
  have f2 : alistS [.ref 0 ka 0, .int .i64 2, .int .u64 255] O1 = some (.tup [.nils, .bool true], O1) := by
    simp only [alistS, H1.a, w2]
    rw [alistG, if_pos rfl]
  have w4 := H1.get 4 (by omega) (by omega)
  rw [show fmtG p (4 : Int).toNat = 1 from rfl] at w4
  have w3 := H1.get 3 (by omega) (by omega)
  rw [show fmtG p (3 : Int).toNat = 1 from rfl] at w3
  have c1 : 0 ≤ p - 1 ∧ p - 1 ≤ 1000 ∧ (0 : Int) ≤ 1 ∧ (1 : Int) ≤ 1000 ∧ 0 ≤ p ∧ p ≤ 1000 := by omega
  have c2 : p - 1 + 1 = p := by omega
  have c3 : 1 ≤ (1 : Int) ∧ (1 : Int) ≤ 1099511627776 := by omega
  refine ⟨O1, ?_, g1⟩
  simp only [asoundS, f1, f2, H1.counts, H1.a, w4, r1, if_pos n1, if_true, if_pos c1, if_pos c2, if_pos c3]
  rw [asoundG]
  simp only [H1.a, w3, if_pos (show (1 : Int) ≤ 1 by omega), if_pos hp.1, H1.used1]
end
theorem open_ok {O : Mo} {km kb : Nat} {W : List Int} {p : Int} {n : Nat} (M : MemW O km kb W) (w : Wg W n (fmtG p)) (hp : 1 ≤ p ∧ p ≤ 511) (hn : 16 + 128 * p ≤ n) (hn2 : n ≤ 65536) :
    ∃ ka kc kb2 O', aopenS [.ref 0 km 0] O = some (.tup [.ref 0 ka 0, .int .i64 0], O') ∧ AR O' ka kc kb2 W p n ∧ Ag O O' [] := by
  have hl := w.len
  have x0 : W[(0 : Int).toNat]? = some p := w.get 0 (by omega)
  have e0 := do_load M (w := 0) (by omega) x0
  unfold acc at e0
  have e1 : lenS [.ref 0 km 0] O = some (.int .i64 (W.length : Nat), O) := by
    simp only [lenS, M.m, M.b, if_true, wds_len]
    rw [if_neg (by omega)]
  obtain ⟨O1, e2, m2, g2, l2⟩ := memcopy_ok M (by omega)
  have H : AR (O1 ++ [ABlk.arr [.ref 0 (O.length + 1) 0]]) O1.length (O.length + 1) O.length W p n :=
    ⟨app_last _ _, m2.ag (Ag.app _ _ []) (by simp) (by simp), w, hp, hn⟩
  obtain ⟨O2, e3, g3⟩ := H.sound
  refine ⟨O1.length, O.length + 1, O.length, O2, ?_, H.ag g3 (by simp) (by simp) (by simp), (g2.trans (Ag.app _ _ _)).trans g3⟩
  have c1 : ((W.length : Nat) : Int) ≠ 0 := by omega
  have c2 : 16 + 128 * (p + 1 - 1) + 0 ≤ ((W.length : Nat) : Int) := by omega
  simp only [aopenS, e1, if_pos c1, loadS, acc, e0, if_true, if_pos hp, if_pos c2, e2, e3]
/-- The first page. -/
def cs1 (i : Nat) : List AV := P0.take i ++ List.replicate (128 - i) (.int .u64 0)
theorem P0_len : P0.length = 128 := by decide +kernel
theorem cs1_set {i : Nat} (h : i < 128) : (cs1 i).set i (.int .u64 (w0 i)) = cs1 (i + 1) := by
  unfold cs1
  have hl : (P0.take i).length = i := by rw [List.length_take, P0_len]; omega
  rw [List.set_append_right _ _ (by omega), hl, Nat.sub_self]
  obtain ⟨q, hq⟩ : ∃ q, 128 - i = q + 1 := ⟨128 - i - 1, by omega⟩
  rw [hq, show 128 - (i + 1) = q by omega, List.replicate_succ, List.set_cons_zero, List.take_add_one, P0_get i h]
  simp
theorem cs1_len {i : Nat} (h : i ≤ 128) : (cs1 i).length = 128 := by
  unfold cs1; rw [List.length_append, List.length_take, P0_len, List.length_replicate]; omega
theorem fmtG_p1 {p : Int} {i : Nat} (hp : 1 ≤ p ∧ p ≤ 511) (h : i < 128) : fmtG p (16 + i) = if i < 8 then 0 else w0 i := by
  unfold fmtG fmtP
  rw [if_neg (by omega), if_neg (by omega)]
  by_cases e : i < 8
  · rw [if_pos e, if_neg (by omega)]
    unfold fmtL
    rw [if_neg (by omega), if_neg (by omega), if_neg (by omega), if_neg (by omega)]
  · rw [if_neg e, if_pos (by omega)]; congr 1; omega
theorem read_ok {O : Mo} {ka kc kb : Nat} {W : List Int} {p : Int} {n : Nat} (h : AR O ka kc kb W p n) : areadS [.ref 0 ka 0, .int .i64 1] O = some (.tup [.agg P0, .int .i64 0], O) := by
  have hp := h.hp
  have key : ∀ (m : Nat) (i : Nat), i ≤ 128 → 128 < i + m → areadG ka 1 (List.replicate 128 (.int .u64 0)) m i (cs1 i) O = some (.tup [.agg P0, .int .i64 0], O) := by
    intro m
    induction m with
    | zero => intro i h0 h1; omega
    | succ m ih =>
      intro i h0 h1
      by_cases hi : i < 128
      · have e := h.get (16 + 128 * (1 - 1) + (i : Int)) (by omega) (by have := h.hn; omega)
        rw [show (16 + 128 * (1 - 1) + (i : Int)).toNat = 16 + i by omega, fmtG_p1 hp hi] at e
        have ew : (if i < 8 then 0 else w0 i) = w0 i := by
          by_cases e : i < 8
          · rw [if_pos e]; unfold w0; rw [if_neg (by omega), if_neg (by omega)]
          · rw [if_neg e]
        rw [ew] at e
        rw [areadG, if_pos (cs1_len h0), if_pos (show (i : Int) < 128 by omega), if_pos (show (0 : Int) ≤ i by omega)]
        simp only [h.a, e]
        rw [show ((i : Int)).toNat = i by omega, cs1_set hi, show (i : Int) + 1 = ((i + 1 : Nat) : Int) by omega]
        exact ih (i + 1) (by omega) (by omega)
      · obtain rfl : i = 128 := by omega
        have hc : cs1 128 = P0 := by unfold cs1; rw [List.take_of_length_le (by rw [P0_len]; omega)]; simp
        rw [areadG, if_pos (cs1_len h0), if_neg (by omega), hc, if_pos (by decide +kernel)]
  have c1 : (1 : Int) ≤ 1 ∧ (1 : Int) ≤ 511 := by omega
  have c2 : (List.replicate 128 (AV.int .u64 0)).length = 128 := by simp
  simp only [areadS, h.there1, if_true, if_pos c1, if_pos c2]
  have := key 130 0 (by omega) (by omega)
  rw [show cs1 0 = List.replicate 128 (AV.int .u64 0) by unfold cs1; simp] at this
  exact this
end Den

/- DescendLayouts: the law. -/
set_option maxRecDepth 100000
set_option maxHeartbeats 1000000
set_option linter.unusedSimpArgs false
set_option linter.unusedVariables false
namespace Den
open Go Go.Proofs

theorem words_ok {O : Mo} {km kb : Nat} {W : List Int} (M : MemW O km kb W) {a b : Int} (h0 : 0 ≤ a) (h1 : a < b) (h2 : b ≤ W.length) (h3 : W.length ≤ 65536) :
    ∃ O', mwordsS [.ref 0 km 0, .int .i64 a, .int .i64 b] O = some (.tup [.bref 0 O.length 0 (b.toNat - a.toNat) (b.toNat - a.toNat), .int .i64 0], O') ∧ rdW O' (.bref 0 O.length 0 (b.toNat - a.toNat) (b.toNat - a.toNat)) = some ((W.drop a.toNat).take (b.toNat - a.toNat)) ∧ Ag O O' [] ∧ O'[O.length]? = some (.buf 1 (encW ((W.drop a.toNat).take (b.toNat - a.toNat)))) := by
  have e0 : zeroS [.ref 0 km 0] O = some (.bool false, O) := by
    have : ¬ W.length = 0 := by have := M.n; omega
    simp only [zeroS, M.memO, wds_len, this, decide_false]
  have hr : rdS O 1 (.bref 0 kb a.toNat (b.toNat - a.toNat) W.length) = some (encW ((W.drop a.toNat).take (b.toNat - a.toNat)), b.toNat - a.toNat) := by
    simp only [rdS, M.b]
    rw [if_pos ⟨by rw [wds_len], by rw [wds_len]; omega⟩]
    simp [wds, encW, List.map_drop, List.map_take]
  have hlen : (encW ((W.drop a.toNat).take (b.toNat - a.toNat))).length = b.toNat - a.toNat := by simp [encW]; omega
  have hW : (encW ((W.drop a.toNat).take (b.toNat - a.toNat))).all isW = true := wds_isW _
  have c1 : 1 ≤ b.toNat - a.toNat ∧ b.toNat - a.toNat ≤ 65536 := by omega
  have c2 : a ≤ b := by omega
  refine ⟨O ++ [.buf 1 (encW ((W.drop a.toNat).take (b.toNat - a.toNat)))], ?_, ?_, Ag.app _ _ _, app_last _ _⟩
  · simp only [mwordsS, e0, if_pos h0, if_pos c2, M.m, if_pos h2, cloneP, hr, if_true, hW, if_pos c1, hlen]
  · exact rdW_bref (app_last _ _) (by simp; omega)
theorem layG_ok {p t : Int} {sl : AV} {l : List Int} {O : Mo} (hr : rdW O sl = some l) (hl : l.length ≤ 150) (hz : ∀ i : Nat, i < l.length → l[i]? = some 0) : ∀ (m : Nat) (k : Nat), k ≤ l.length → l.length < k + m → layG p t P0 sl m k O = some (.bool true, O) := by
  intro m
  induction m with
  | zero => intro k h0 h1; omega
  | succ m ih =>
    intro k h0 h1
    have c1 : l.length ≤ 100000 := by omega
    by_cases hk : (k : Int) < (l.length : Int)
    · rw [layG]
      simp only [hr, if_pos c1, if_pos (show (0 : Int) ≤ k by omega), if_pos hk, show ((k : Int)).toNat = k by omega, hz k (by omega), if_true]
      rw [show (k : Int) + 1 = ((k + 1 : Nat) : Int) by omega]
      exact ih (k + 1) (by omega) (by omega)
    · have e1 : slevelS [.agg P0] O = some (.int .i64 0, O) := by
        unfold slevelS slot0S; simp only [if_pos (show chkW W0 P0 = true by decide +kernel)]
      have e2 : slenS [.agg P0] O = some (.int .i64 0, O) := by
        unfold slenS slot0S; simp only [if_pos (show chkW W0 P0 = true by decide +kernel)]
      rw [layG]
      simp only [hr, if_pos c1, if_pos (show (0 : Int) ≤ k by omega), if_neg hk, e1, e2, if_true, known27S]
theorem layA_ok {p t : Int} (hp : 1 ≤ p ∧ p ≤ 511) (ht : 1 ≤ t ∧ t ≤ 17) (O : Mo) : ∃ O', layA p t O = some (.bool true, O') := by
  have e1 := dnodes_ok O p t hp ht
  have c0 : 1 ≤ p ∧ p ≤ 511 ∧ 1 ≤ t ∧ t ≤ 17 := by omega
  have v : ∀ O, dvalidS [.agg [.int .i64 p, .int .i64 t]] O = some (.bool true, O) := fun O => by
    simp only [dvalidS, if_neg (show ¬ p < 1 by omega), if_neg (show ¬ 511 < p by omega), if_neg (show ¬ t < 1 by omega), if_neg (show ¬ 17 < t by omega)]
  have ew : ∀ O, word27S [.agg [.int .i64 p, .int .i64 t], .int .i64 (16 + 128 * p + 6 * t), .int .i64 0] O = some (.bool true, O) := fun O => by
    simp only [word27S, dWordsS, v, if_pos c0, if_pos (show 16 + 128 * p + t * 2 * 3 = 16 + 128 * p + 6 * t by omega), if_true]
  have e2 : ∀ O, rwordsS [.agg [.int .i64 p, .int .i64 t]] O = some (.int .i64 (16 + 128 * p + 6 * t), O) := fun O => by
    simp only [rwordsS, if_pos c0]
  have b1 : nbaseS [.ref 0 O.length 0] (O ++ [.arr [.int .i64 (16 + 128 * p), .int .i64 t]]) = some (.int .i64 (16 + 128 * p), O ++ [.arr [.int .i64 (16 + 128 * p), .int .i64 t]]) := by
    simp only [nbaseS, app_last, if_pos ht.1]
  have b2 : nthreadsS [.ref 0 O.length 0] (O ++ [.arr [.int .i64 (16 + 128 * p), .int .i64 t]]) = some (.int .i64 t, O ++ [.arr [.int .i64 (16 + 128 * p), .int .i64 t]]) := by
    simp only [nthreadsS, app_last]; simp; try omega
  have b3 : nlenS [.ref 0 O.length 0] (O ++ [.arr [.int .i64 (16 + 128 * p), .int .i64 t]]) = some (.int .i64 (6 * t), O ++ [.arr [.int .i64 (16 + 128 * p), .int .i64 t]]) := by
    simp only [nlenS, app_last]; simp; try omega
  by_cases h20 : 20 < p
  · exact ⟨_, by simp only [layA, e1, if_true, e2, ew, b1, b2, b3, if_pos h20, known27S]; rfl⟩
  obtain ⟨km, kb, O1, W, f1, M1, w1, G1, L1, L2⟩ := format_ok (O ++ [.arr [.int .i64 (16 + 128 * p), .int .i64 t]]) p t hp ht
  have wl := w1.len
  have f2 : lenS [.ref 0 km 0] O1 = some (.int .i64 (W.length : Nat), O1) := by
    simp only [lenS, M1.m, M1.b, if_true, wds_len]
    rw [if_neg (by omega)]
  have c2 : ((W.length : Nat) : Int) = 16 + 128 * p + 6 * t := by omega
  obtain ⟨ka, kc, kb2, O2, f3, H, G2⟩ := open_ok M1 w1 hp (by omega) (by omega)
  have M2 := M1.ag G2 (by simp) (by simp)
  have f4 : lenS [.ref 0 km 0] O2 = some (.int .i64 (W.length : Nat), O2) := by
    simp only [lenS, M2.m, M2.b, if_true, wds_len]
    rw [if_neg (by omega)]
  obtain ⟨O3, f5, r5, G3, _⟩ := words_ok M2 (a := 16 + 128 * p) (b := (W.length : Nat)) (by omega) (by omega) (by omega) (by omega)
  have f6 := layG_ok (p := p) (t := t) r5 (by simp; omega) (fun i hi => by
    simp only [List.length_take, List.length_drop] at hi
    rw [List.getElem?_take_of_lt (by omega), List.getElem?_drop, w1.get _ (by omega), fmtG_end (by omega) (by omega)]) 200 0 (by omega) (by simp; omega)
  have c3 : (1 : Int) ≤ p := hp.1
  refine ⟨O3, ?_⟩
  simp only [layA, e1, if_true, e2, ew, b1, b2, b3, if_neg h20, layB, f1, f2, if_pos c2, f3, layC, H.root, if_pos (show (1 : Int) ≤ 1 by omega), if_pos c3, H.counts, read_ok H, P0_len, if_pos (show P0.all isW = true by decide +kernel), f4, f5]
  exact f6
theorem layoutsS_true (p t g : Int) : ∃ O', layoutsS [.agg [.int .i64 p, .int .i64 t], .int .i64 g] [] = some (.bool true, O') := by
  by_cases d : 1 ≤ p ∧ p ≤ 511 ∧ 1 ≤ t ∧ t ≤ 17
  · have v : ∀ O, dvalidS [.agg [.int .i64 p, .int .i64 t]] O = some (.bool true, O) := fun O => by
      simp only [dvalidS, if_neg (show ¬ p < 1 by omega), if_neg (show ¬ 511 < p by omega), if_neg (show ¬ t < 1 by omega), if_neg (show ¬ 17 < t by omega)]
    have ea : rallowS [.agg [.int .i64 p, .int .i64 t]] [] = some (.bool true, []) := by
      simp only [rallowS, if_neg (show ¬ p < 1 by omega), if_neg (show ¬ 511 < p by omega), if_neg (show ¬ t < 1 by omega), if_neg (show ¬ 17 < t by omega)]
    obtain ⟨O', h⟩ := layA_ok ⟨d.1, d.2.1⟩ d.2.2 []
    by_cases c1 : g < 0
    · have e1 : at27S [.agg [.int .i64 p, .int .i64 t], .int .i64 g, .int .i64 0, .int .i64 3] [] = some (.bool true, []) := by
        simp [at27S, dAtS, dOfS, v, c1]
      exact ⟨O', by simp only [layoutsS, ea, if_pos d, if_pos c1, e1, h]⟩
    by_cases c2 : p < g
    · have e1 : at27S [.agg [.int .i64 p, .int .i64 t], .int .i64 g, .int .i64 0, .int .i64 3] [] = some (.bool true, []) := by
        simp [at27S, dAtS, dOfS, v, c1, c2]
      exact ⟨O', by simp only [layoutsS, ea, if_pos d, if_neg c1, if_pos c2, e1, h]⟩
    by_cases c3 : g = 0
    · subst c3
      have e0 : ratS [.int .i64 0] [] = some (.int .i64 8, []) := by simp only [ratS, if_true]
      have ed : dAtS [.agg [.int .i64 p, .int .i64 t], .int .i64 0] [] = some (.tup [.int .i64 8, .int .i64 0], []) := by
        simp only [dAtS, v, if_neg c1, if_neg c2, if_true]
      have eo : dOfS [.agg [.int .i64 p, .int .i64 t], .int .i64 0] [] = some (.tup [.int .i64 (8 + 3), .int .i64 0], []) := by
        simp only [dOfS, ed, if_true, if_pos (show (0 : Int) ≤ 8 ∧ (8 : Int) ≤ 100000 by omega)]
      have e1 : at27S [.agg [.int .i64 p, .int .i64 t], .int .i64 0, .int .i64 8, .int .i64 0] [] = some (.bool true, []) := by
        simp only [at27S, ed, eo, if_true, if_pos (show (0 : Int) ≤ 8 ∧ (8 : Int) ≤ 100000 by omega)]
      exact ⟨O', by simp only [layoutsS, ea, if_pos d, if_neg c1, if_neg c2, e0, e1, h]⟩
    · have e0 : ratS [.int .i64 g] [] = some (.int .i64 (16 + 128 * (g - 1)), []) := by simp only [ratS, if_neg c3, if_pos (show 1 ≤ g ∧ g ≤ 511 by omega)]
      have ew : aWordS [.int .i64 g, .int .i64 0] [] = some (.tup [.int .i64 (16 + 128 * (g - 1) + 0), .int .i64 0], []) := by
        simp only [aWordS, if_neg (show ¬ g < 1 by omega), if_neg (show ¬ 511 < g by omega), if_neg (show ¬ (0 : Int) < 0 by omega), if_neg (show ¬ (128 : Int) ≤ 0 by omega)]
      have ed : dAtS [.agg [.int .i64 p, .int .i64 t], .int .i64 g] [] = some (.tup [.int .i64 (16 + 128 * (g - 1) + 0), .int .i64 0], []) := by
        simp only [dAtS, v, if_neg c1, if_neg c2, if_neg c3, ew]
      have eo : dOfS [.agg [.int .i64 p, .int .i64 t], .int .i64 g] [] = some (.tup [.int .i64 (16 + 128 * (g - 1) + 0 + 3), .int .i64 0], []) := by
        simp only [dOfS, ed, if_true, if_pos (show 0 ≤ 16 + 128 * (g - 1) + 0 ∧ 16 + 128 * (g - 1) + 0 ≤ 100000 by omega)]
      have e1 : at27S [.agg [.int .i64 p, .int .i64 t], .int .i64 g, .int .i64 (16 + 128 * (g - 1)), .int .i64 0] [] = some (.bool true, []) := by
        simp only [at27S, ed, eo, if_true, if_pos (show 16 + 128 * (g - 1) + 0 = 16 + 128 * (g - 1) by omega), if_pos (show 0 ≤ 16 + 128 * (g - 1) ∧ 16 + 128 * (g - 1) ≤ 100000 by omega), if_pos (show 16 + 128 * (g - 1) + 0 + 3 = 16 + 128 * (g - 1) + 3 by omega)]
      exact ⟨O', by simp only [layoutsS, ea, if_pos d, if_neg c1, if_neg c2, e0, e1, h]⟩
  · have v : ∀ O, dvalidS [.agg [.int .i64 p, .int .i64 t]] O = some (.bool false, O) := fun O => by
      unfold dvalidS; simp only []
      by_cases a1 : p < 1
      · rw [if_pos a1]
      rw [if_neg a1]
      by_cases a2 : 511 < p
      · rw [if_pos a2]
      rw [if_neg a2]
      by_cases a3 : t < 1
      · rw [if_pos a3]
      rw [if_neg a3, if_pos (by omega)]
    have ea : rallowS [.agg [.int .i64 p, .int .i64 t]] [] = some (.bool false, []) := by
      have := v []
      unfold dvalidS at this; unfold rallowS; exact this
    have e1 : word27S [.agg [.int .i64 p, .int .i64 t], .int .i64 0, .int .i64 2] [] = some (.bool true, []) := by
      simp [word27S, dWordsS, v]
    have e2 : at27S [.agg [.int .i64 p, .int .i64 t], .int .i64 g, .int .i64 0, .int .i64 2] [] = some (.bool true, []) := by
      simp [at27S, dAtS, dOfS, v]
    exact ⟨[], by simp only [layoutsS, ea, dnodes_bad [] p t d, format_bad [] p t d, if_true, e1, e2, known27S]⟩
/-- The law. -/
theorem descendLayouts_law (a0 a1 : List AV) (s0 : Shp (.cat (.int .i64) (.cat (.int .i64) .unit)) a0) (s1 : Shp (.int .i64) a1) :
    ∃ O' S', CallOk Tryz.prog 3 [parV (.cat (.int .i64) (.cat (.int .i64) .unit)) a0, parV (.int .i64) a1] [] [] (.bool true) O' S' := by
  obtain ⟨c1, c2, rfl, ⟨p, rfl, _⟩, ⟨c3, c4, rfl, ⟨t, rfl, _⟩, rfl⟩⟩ := s0
  obtain ⟨g, rfl, w1⟩ := s1
  obtain ⟨O', h⟩ := layoutsS_true p t g
  exact ⟨O', [], layoutsS_ok _ [] _ _ h []⟩
end Den
