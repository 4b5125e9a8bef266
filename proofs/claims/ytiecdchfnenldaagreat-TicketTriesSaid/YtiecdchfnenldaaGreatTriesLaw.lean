/- TicketTries: the answer is yes. -/
import Derived.Test.YtiecdchfnenldaaGreatTries
set_option maxRecDepth 100000
set_option linter.unusedSimpArgs false
set_option linter.unusedVariables false
namespace Den
open Go Go.Proofs

def Cnt (O : Mo) (k : Nat) (most i : Int) : Prop := O[k]? = some (.arr [.int .i64 most, .int .i64 (min i most)])
theorem get_setS {O : Mo} {k : Nat} {b c : ABlk} (h : O[k]? = some b) : (O.set k c)[k]? = some c := by
  obtain ⟨hk, _⟩ := List.getElem?_eq_some_iff.1 h
  rw [List.getElem?_set_self hk]
theorem triesE_ok {most : Int} {O : Mo} {k : Nat} {i : Int} (hm : most ≤ 64) (h0 : 0 ≤ most) (hi : 0 ≤ i) (h : Cnt O k most i) : triesE most k O = some (.bool true, O) := by
  have a1 : 0 ≤ min i most ∧ min i most ≤ most ∧ most ≤ 64 := by omega
  have a2 : 0 ≤ min i most ∧ min i most ≤ 64 ∧ 0 ≤ most - min i most ∧ most - min i most ≤ 64 := by omega
  have a3 : min i most + (most - min i most) = most := by omega
  unfold Cnt at h
  simp only [triesE, tCountS, tLeftS, known32S, h, if_pos a1, if_pos a2, if_pos a3]
theorem triesB_ok {most : Int} {O : Mo} {k : Nat} {i : Int} (hm : most ≤ 64) (h0 : 0 ≤ most) (hi : 0 ≤ i) (h : Cnt O k most i) :
    ∃ O2, Cnt O2 k most (i + 1) ∧ ∀ K, triesB most i k K O = K O2 := by
  unfold Cnt at h
  have a1 : 0 ≤ min i most ∧ min i most ≤ most ∧ most ≤ 64 := by omega
  by_cases hc : most < i + 1
  · have b1 : min i most = most := by omega
    have b2 : min (i + 1) most = most := by omega
    rw [b1] at h a1
    refine ⟨O, by unfold Cnt; rw [b2]; exact h, fun K => ?_⟩
    simp only [triesB, rAgainS, tAgainS, tCountS, tLeftS, tSpentS, h, if_pos hc, if_pos a1, Int.sub_self, if_true]
    rw [if_pos]
    simp
    omega
  · have b1 : min i most = i := by omega
    have b2 : min (i + 1) most = i + 1 := by omega
    rw [b1] at h a1
    have h2 := get_setS (c := .arr [.int .i64 most, .int .i64 (i + 1)]) h
    refine ⟨O.set k (.arr [.int .i64 most, .int .i64 (i + 1)]), by unfold Cnt; rw [b2]; exact h2, fun K => ?_⟩
    have a2 : 0 ≤ i + 1 ∧ i + 1 ≤ most ∧ most ≤ 64 := by omega
    have a3 : ¬ most - i = 0 := by omega
    have a4 : 0 < i + 1 := by omega
    by_cases a5 : most - (i + 1) = 0
    · have a6 : i + 1 = most := by omega
      have a7 : 0 ≤ i + 1 ∧ i + 1 ≤ most := by omega
      simp only [triesB, rAgainS, tAgainS, tCountS, tLeftS, tSpentS, h, h2, if_neg hc, if_pos a1, if_neg a3, if_pos a4, if_pos a2, if_pos a5]
      rw [if_pos]
      simp [a6, h0]
    · have a6 : ¬ i + 1 = most := by omega
      have a7 : 0 ≤ i + 1 ∧ i + 1 ≤ most := by omega
      simp only [triesB, rAgainS, tAgainS, tCountS, tLeftS, tSpentS, h, h2, if_neg hc, if_pos a1, if_neg a3, if_pos a4, if_pos a2, if_neg a5]
      rw [if_pos]
      simp [a6, a7]
theorem triesG_true {most calls w : Int} (hm : most ≤ 64) (h0 : 0 ≤ most) : ∀ (n : Nat) (i : Int) (k : Nat) (O : Mo), 0 ≤ i → calls ≤ i + n → Cnt O k most i → ∃ O', triesG most calls w n i k O = some (.bool true, O') := by
  intro n
  induction n with
  | zero =>
    intro i k O hi hn h
    have : ¬ i < calls := by omega
    exact ⟨_, by rw [triesG, if_neg this]; exact triesE_ok hm h0 hi h⟩
  | succ n ih =>
    intro i k O hi hn h
    rw [triesG]
    by_cases h1 : i < calls
    · rw [if_pos h1, if_pos hi]
      by_cases h2 : w = i
      · rw [if_pos h2]
        have h' := h
        unfold Cnt at h'
        have a1 : 0 ≤ min i most ∧ min i most ≤ most ∧ most ≤ 64 := by omega
        obtain ⟨hk, _⟩ := List.getElem?_eq_some_iff.1 h'
        have g1 : (O ++ [ABlk.arr [.int .i64 most, .int .i64 (min i most)]])[k]? = some (.arr [.int .i64 most, .int .i64 (min i most)]) := by
          rw [List.getElem?_append_left hk]; exact h'
        have g2 : (O ++ [ABlk.arr [.int .i64 most, .int .i64 (min i most)]])[O.length]? = some (.arr [.int .i64 most, .int .i64 (min i most)]) := by simp
        simp only [tCopyS, h', tAgainS, g1, if_pos a1]
        by_cases h3 : most - min i most = 0
        · simp only [if_pos h3]
          obtain ⟨O2, c2, e2⟩ := triesB_ok (k := O.length) hm h0 hi g2
          rw [e2]
          exact ih (i + 1) O.length O2 (by omega) (by omega) c2
        · simp only [if_neg h3]
          have hne : k ≠ O.length := by omega
          obtain ⟨O2, c2, e2⟩ := triesB_ok (k := O.length) (O := (O ++ [ABlk.arr [.int .i64 most, .int .i64 (min i most)]]).set k (.arr [.int .i64 most, .int .i64 (min i most + 1)])) hm h0 hi (by
            unfold Cnt; rw [List.getElem?_set_ne hne]; exact g2)
          rw [e2]
          exact ih (i + 1) O.length O2 (by omega) (by omega) c2
      · rw [if_neg h2]
        obtain ⟨O2, c2, e2⟩ := triesB_ok hm h0 hi h
        rw [e2]
        exact ih (i + 1) k O2 (by omega) (by omega) c2
    · rw [if_neg h1]; exact ⟨_, triesE_ok hm h0 hi h⟩
theorem triesS_true (most calls w : Int) (h1 : 0 ≤ calls) (h3 : 0 ≤ w) (h4 : w ≤ 255) : ∃ O', triesS [.int .i64 most, .int .u8 calls, .int .u8 w] [] = some (.bool true, O') := by
  by_cases a : most < 0
  · exact ⟨[], by simp [triesS, newTriesS, a, known32S]⟩
  by_cases b : 64 < most
  · exact ⟨[], by simp [triesS, newTriesS, a, b, known32S]⟩
  by_cases c : 80 < calls
  · exact ⟨[.arr [.int .i64 most, .int .i64 0]], by simp [triesS, newTriesS, a, b, c, known32S]⟩
  obtain ⟨O', h⟩ := triesG_true (calls := calls) (w := w) (most := most) (by omega) (by omega) calls.toNat 0 0 [.arr [.int .i64 most, .int .i64 0]] (by omega) (by omega) (by
    unfold Cnt; have : min 0 most = 0 := by omega
    rw [this]; rfl)
  have d : 0 ≤ calls ∧ 0 ≤ w ∧ w ≤ 255 := ⟨h1, h3, h4⟩
  refine ⟨O', ?_⟩
  simp only [triesS, newTriesS, if_neg a, if_neg b, if_neg c, if_pos d, if_true, List.length_nil, List.nil_append]
  exact h
end Den
