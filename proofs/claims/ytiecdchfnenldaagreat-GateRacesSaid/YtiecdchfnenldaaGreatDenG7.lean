/- Rules for slices of integers that are only read: what they hold is a list. -/
import Derived.Test.YtiecdchfnenldaaGreatDenG6
set_option linter.unusedSectionVars false
set_option linter.unusedVariables false
set_option linter.unusedSimpArgs false
set_option linter.defProp false
namespace Den
open Go

def ints (l : List Int) : List AV := l.map (AV.int .i64)
theorem ints_len (l : List Int) : (ints l).length = l.length := by simp [ints]
theorem ints_get (l : List Int) (i : Nat) : (ints l)[i]? = l[i]?.map (AV.int .i64) := by simp [ints]
theorem ints_low (lim : Nat) (l : List Int) : (ints l).all (AV.low lim) = true := by
  simp only [ints, List.all_map, List.all_eq_true]; intro x _; rfl
def toInts : List AV → Option (List Int)
  | [] => some []
  | .int .i64 n :: r => (toInts r).map (n :: ·)
  | _ :: _ => none
theorem toInts_ints : ∀ l : List Int, toInts (ints l) = some l
  | [] => rfl
  | x :: l => by
    show (toInts (ints l)).map (x :: ·) = _
    rw [toInts_ints l]; rfl
theorem toInts_eq : ∀ {cs : List AV} {l : List Int}, toInts cs = some l → cs = ints l
  | [], l, h => by cases h; rfl
  | c :: cs, l, h => by
    cases c <;> first | (cases h; done) | skip
    rename_i k n
    cases k <;> first | (cases h; done) | skip
    simp only [toInts] at h
    obtain ⟨l', h', rfl⟩ := Option.map_eq_some_iff.1 h
    rw [toInts_eq h']; rfl
/-- The cells of a slice that lies among the objects, or never changes. -/
def rdS (O : Mo) (sz : Nat) : AV → Option (List AV × Nat)
  | .nils | .emp => some ([], 0)
  | .isl cs len => if cs.length = len * sz then some (cs, len) else none
  | .sref 0 k off len _ => match O[k]? with
    | some (.arr cs) => if off + len * sz ≤ cs.length then some ((cs.drop off).take (len * sz), len) else none
    | _ => none
  | .bref 0 k off len tot => match O[k]? with
    | some (.buf _ cs) => if cs.length = tot ∧ off + len * sz ≤ cs.length then some ((cs.drop off).take (len * sz), len) else none
    | _ => none
  | _ => none
theorem rdS_conts {O : Mo} {sz : Nat} {v : AV} {p : List AV × Nat} (h : rdS O sz v = some p) (S : Ms) : conts O S sz v = some p := by
  cases v <;> first | (cases h; done) | skip
  all_goals first | exact h | skip
  · rename_i d k off len cap
    cases d <;> first | (cases h; done) | exact h
  · rename_i d k off len tot
    cases d <;> first | (cases h; done) | exact h
theorem rdS_len {O : Mo} {sz : Nat} {v : AV} {cs : List AV} {n : Nat} (h : rdS O sz v = some (cs, n)) : cs.length = n * sz := by
  cases v <;> first | (cases h; done) | skip
  · cases h; simp
  · cases h; simp
  · rename_i c len
    simp only [rdS] at h
    split at h
    · rename_i hl; cases h; exact hl
    · cases h
  · rename_i d k off len cap
    cases d with
    | succ d => cases h
    | zero =>
      simp only [rdS] at h
      split at h
      · split at h
        · rename_i hl; cases h; simp; omega
        · cases h
      · cases h
  · rename_i d k off len tot
    cases d with
    | succ d => cases h
    | zero =>
      simp only [rdS] at h
      split at h
      · split at h
        · rename_i hl; cases h; simp; omega
        · cases h
      · cases h
theorem rdS_lenA {O : Mo} {sz : Nat} {v : AV} {cs : List AV} {n : Nat} (h : rdS O sz v = some (cs, n)) (S : Ms) : lenA O S .slice v = some n := by
  cases v <;> first | (cases h; done) | skip
  · cases h; rfl
  · cases h; rfl
  · rename_i c len
    simp only [rdS] at h
    split at h
    · cases h; rfl
    · cases h
  · rename_i d k off len cap
    cases d with
    | succ d => cases h
    | zero =>
      simp only [rdS] at h
      split at h
      · split at h
        · cases h; rfl
        · cases h
      · cases h
  · rename_i d k off len tot
    cases d with
    | succ d => cases h
    | zero =>
      simp only [rdS] at h
      split at h
      · split at h
        · cases h; rfl
        · cases h
      · cases h
def rdI (O : Mo) (v : AV) : Option (List Int) := match rdS O 1 v with
  | some (cs, _) => toInts cs
  | none => none
theorem rdI_of {O : Mo} {v : AV} {l : List Int} (h : rdI O v = some l) : rdS O 1 v = some (ints l, l.length) := by
  unfold rdI at h
  split at h
  · rename_i cs n hs
    have e := toInts_eq h
    subst e
    have := rdS_len hs
    rw [ints_len] at this
    rw [hs]; simp; omega
  · cases h
theorem rdI_mk {O : Mo} {v : AV} {l : List Int} {n : Nat} (h : rdS O 1 v = some (ints l, n)) : rdI O v = some l := by
  simp only [rdI, h, toInts_ints]
theorem isS_of {α : Type} {o : Option α} {x : α} (h : o = some x) : o.isSome = true := by rw [h]; rfl
def adI (v : AV) (i : Nat) : AV := (ixaSl i 1 v).getD .undef
def lnS : AV → Option Nat
  | .nils | .emp => some 0
  | .isl _ n => some n
  | .sref _ _ _ n _ => some n
  | .bref _ _ _ n _ => some n
  | _ => none
def ixok (v : AV) (i : Nat) : Bool := match lnS v with
  | some n => decide (i < n)
  | none => false
theorem rdS_lnS {O : Mo} {sz : Nat} {v : AV} {cs : List AV} {n : Nat} (h : rdS O sz v = some (cs, n)) : lnS v = some n := by
  have := rdS_lenA h []
  cases v <;> first | (cases h; done) | exact this
theorem ixok_of {O : Mo} {v : AV} {l : List Int} {i : Nat} (h : rdI O v = some l) (hi : i < l.length) : ixok v i = true := by
  simp [ixok, rdS_lnS (rdI_of h), hi]
theorem sl_len {O : Mo} {v : AV} (S : Ms) (h : (rdI O v).isSome = true) : lenA O S .slice v = some ((rdI O v).getD []).length := by
  obtain ⟨l, hl⟩ := Option.isSome_iff_exists.1 h
  rw [rdS_lenA (rdI_of hl), hl]; rfl
theorem sl_ix {v : AV} {i : Nat} (h : ixok v i = true) : ixaSl i 1 v = some (adI v i) := by
  unfold ixok at h
  cases v <;> (simp only [lnS] at h) <;> first | (cases h; done) | skip
  all_goals
    simp only [decide_eq_true_eq] at h
    first | (exfalso; omega) | simp [adI, ixaSl, h]
theorem sl_ld {O : Mo} {v : AV} {i : Nat} (S : Ms) (h : (rdI O v).isSome = true) : ald O S 1 false (adI v i) = (((rdI O v).getD [])[i]?).map (AV.int .i64) := by
  obtain ⟨l, hl⟩ := Option.isSome_iff_exists.1 h
  rw [hl]
  have hs := rdI_of hl
  simp only [Option.getD_some]
  rw [← ints_get]
  generalize ints l = cs at hs
  generalize l.length = n at hs
  cases v <;> first | (cases hs; done) | skip
  · cases hs; rfl
  · cases hs; rfl
  · rename_i c len
    simp only [rdS] at hs
    split at hs
    · rename_i hc
      cases hs
      by_cases hi : i < n
      · simp [adI, ixaSl, hi, ald, takeV]
      · have : ¬ i < cs.length := by omega
        have hn : cs[i]? = none := List.getElem?_eq_none (by omega)
        simp [adI, ixaSl, hi, ald, hn]
    · cases hs
  · rename_i d k off len cap
    cases d with
    | succ d => cases hs
    | zero =>
      simp only [rdS] at hs
      split at hs
      · rename_i c hc
        split at hs
        · cases hs
          by_cases hi : i < n
          · simp [adI, ixaSl, hi, ald, takeV, gm, hc, List.getElem?_take]
          · simp [adI, ixaSl, hi, ald, List.getElem?_take]
        · cases hs
      · cases hs
  · rename_i d k off len tot
    cases d with
    | succ d => cases hs
    | zero =>
      simp only [rdS] at hs
      split at hs
      · rename_i c hc
        split at hs
        · rename_i ht
          cases hs
          by_cases hi : i < n
          · simp [adI, ixaSl, hi, ald, takeV, gm, hc, ht.1, List.getElem?_take]
          · simp [adI, ixaSl, hi, ald, List.getElem?_take]
        · cases hs
      · cases hs
theorem sl_conts {O : Mo} {v : AV} (S : Ms) (h : (rdI O v).isSome = true) : conts O S 1 v = some (ints ((rdI O v).getD []), ((rdI O v).getD []).length) := by
  obtain ⟨l, hl⟩ := Option.isSome_iff_exists.1 h
  rw [rdS_conts (rdI_of hl), hl]; rfl
theorem rdS_low {O : Mo} {sz : Nat} {v : AV} {p : List AV × Nat} (h : rdS O sz v = some p) (lim : Nat) : v.low (lim + 1) = true ∧ low1 (lim + 1) v = true ∧ v.one = true := by
  cases v <;> first | (cases h; done) | skip
  · exact ⟨rfl, rfl, rfl⟩
  · exact ⟨rfl, rfl, rfl⟩
  · exact ⟨rfl, rfl, rfl⟩
  · rename_i d k off len cap
    cases d with
    | succ d => cases h
    | zero => exact ⟨by simp [AV.low], by simp [low1, lowL, AV.low], rfl⟩
  · rename_i d k off len cap
    cases d with
    | succ d => cases h
    | zero => exact ⟨by simp [AV.low], by simp [low1, lowL, AV.low], rfl⟩
theorem rdS_snap {O : Mo} {sz : Nat} {v : AV} {p : List AV × Nat} (h : rdS O sz v = some p) (B : Ms) (F : List ABlk) : snap1 (B ++ [F]) v = some v ∧ snap2 (B ++ [F]) v = some v ∧ snap (B ++ [F]) v = some v := by
  cases v <;> first | (cases h; done) | skip
  · exact ⟨rfl, rfl, rfl⟩
  · exact ⟨rfl, rfl, rfl⟩
  · exact ⟨rfl, rfl, rfl⟩
  · rename_i d k off len cap
    cases d with
    | succ d => cases h
    | zero =>
      have : snap1 (B ++ [F]) (.sref 0 k off len cap) = some (.sref 0 k off len cap) := by simp [snap1]
      exact ⟨this, this, this⟩
  · rename_i d k off len cap
    cases d with
    | succ d => cases h
    | zero =>
      have : snap1 (B ++ [F]) (.bref 0 k off len cap) = some (.bref 0 k off len cap) := by simp [snap1]
      exact ⟨this, this, this⟩
/-- A value that is such a slice, whatever it holds. -/
def slOk (v : AV) : Prop := ∃ (O : Mo) (sz : Nat) (p : List AV × Nat), rdS O sz v = some p
theorem slOk_of {O : Mo} {v : AV} {l : List Int} (h : rdI O v = some l) : slOk v := ⟨_, _, _, rdI_of h⟩
theorem sl_low {v : AV} {lim : Nat} (h : slOk v) : v.low (lim + 1) = true := by obtain ⟨_, _, _, h⟩ := h; exact (rdS_low h _).1
theorem sl_low1 {v : AV} {lim : Nat} (h : slOk v) : low1 (lim + 1) v = true := by obtain ⟨_, _, _, h⟩ := h; exact (rdS_low h _).2.1
theorem sl_lowA {v : AV} (h : slOk v) : low1 1 v = true := by obtain ⟨_, _, _, h⟩ := h; exact (rdS_low h 0).2.1
theorem sl_snap1 {v : AV} {B : Ms} {F : List ABlk} (h : slOk v) : snap1 (B ++ [F]) v = some v := by obtain ⟨_, _, _, h⟩ := h; exact (rdS_snap h _ _).1
theorem sl_snap2 {v : AV} {B : Ms} {F : List ABlk} (h : slOk v) : snap2 (B ++ [F]) v = some v := by obtain ⟨_, _, _, h⟩ := h; exact (rdS_snap h _ _).2.1
theorem sl_snap {v : AV} {B : Ms} {F : List ABlk} (h : slOk v) : snap (B ++ [F]) v = some v := by obtain ⟨_, _, _, h⟩ := h; exact (rdS_snap h _ _).2.2
theorem sl_bd {v : AV} {off : Nat} {cells : List AV} {rest : List (Nat × Nat × Opd)} {le : List AV} (h : slOk v) : bldC v off 1 cells rest le = gA (decide (off < cells.length)) (buildA le (cells.set off v) rest) := by
  obtain ⟨_, _, _, h⟩ := h; exact g_bd1 _ _ _ _ _ (rdS_low h 0).2.2
theorem sl_st {O : Mo} {B : Ms} {F : List ABlk} {i off : Nat} {cs : List AV} {v : AV} (h : slOk v) : stTop (some (.arr cs)) 1 off v O B F i = gA (decide (off < cs.length) && v.low (B.length + 1 + 1)) (some (O, B ++ [F.set i (.arr (cs.set off v))])) := by
  obtain ⟨_, _, _, h⟩ := h; exact g_st1 _ _ _ _ _ _ _ (rdS_low h 0).2.2
def slVar (b : Option (Nat × Nat)) (v : AV) (sz : Nat) : Option AV :=
  match b, v with
  | some (l, h), .isl cs _ => some (.isl ((cs.drop (l * sz)).take ((h - l) * sz)) (h - l))
  | some (l, h), .sref d k off _ cap => some (.sref d k (off + l * sz) (h - l) (cap - l))
  | some (l, h), .bref d k off _ tot => some (.bref d k (off + l * sz) (h - l) tot)
  | some _, .nils => some .nils
  | _, _ => none
/-- Appending: to nothing, and behind what was appended to nothing. -/
theorem appO_nil (O : Mo) (S : Ms) (l : List Int) (h : l.length ≤ 1000000) : appC 1 8 true .nils (some (ints l, l.length)) O S = some (.bref 0 O.length 0 l.length l.length, O ++ [.buf 1 (ints l)], S) := by
  have h1 : l.length * 8 * 2 ≤ 140737488355328 := by omega
  simp [appC, appA, newD, newK, newO, newS, h1, ints_low, ints_len]
def bufI (O : Mo) (k : Nat) : Option (List Int) := match O[k]? with
  | some (.buf 1 cs) => toInts cs
  | _ => none
theorem bufI_of {O : Mo} {k : Nat} {l : List Int} (h : bufI O k = some l) : O[k]? = some (.buf 1 (ints l)) := by
  unfold bufI at h
  split at h
  · rename_i cs e; rw [e, toInts_eq h]
  · cases h
theorem bufI_mk {O : Mo} {k : Nat} {l : List Int} (h : O[k]? = some (.buf 1 (ints l))) : bufI O k = some l := by
  simp only [bufI, h, toInts_ints]
def bufOk (O : Mo) (k n : Nat) : Prop := ∃ l, bufI O k = some l ∧ l.length = n
theorem bufOk_of {O : Mo} {k n : Nat} {l : List Int} (h : bufI O k = some l) (hl : l.length = n) : bufOk O k n := ⟨l, h, hl⟩
theorem appO_more {O : Mo} {k n : Nat} (S : Ms) (m : List Int) (obj : Bool) (hb : bufOk O k n) (h : n + m.length ≤ 1000000) :
    appC 1 8 obj (.bref 0 k 0 n n) (some (ints m, m.length)) O S = some (.bref 0 k 0 (n + m.length) (n + m.length), O.set k (.buf 1 (ints ((bufI O k).getD [] ++ m))), S) := by
  obtain ⟨l, hb, hl⟩ := hb
  have hk := bufI_of hb
  rw [hb, Option.getD_some]
  have h1 : (n + m.length) * 8 * 2 ≤ 140737488355328 := by omega
  have e : ints l ++ ints m = ints (l ++ m) := by simp [ints]
  subst hl
  have e0 : (1 : Nat) = 1 ∧ (0 : Nat) = 0 ∧ l.length * 1 = l.length ∧ (ints l).length = l.length ∧ (l.length + m.length) * 8 * 2 ≤ 2 ^ 47 ∧ (ints m).all (AV.low (0 + 1)) = true := ⟨rfl, rfl, by omega, ints_len l, h1, ints_low _ _⟩
  have e1 : smO O 0 k (.buf 1 (ints l ++ ints m)) = O.set k (.buf 1 (ints (l ++ m))) := by rw [e]; rfl
  unfold appC appA
  simp only [gm_0, hk]
  rw [if_pos (show True ∧ True ∧ _ from ⟨trivial, trivial, e0.2.2⟩), e1, ints_len]; rfl
theorem appO_one {O : Mo} {k n : Nat} (S : Ms) (x : Int) (obj : Bool) (hb : bufOk O k n) (h : n + 1 ≤ 1000000) :
    appC 1 8 obj (.bref 0 k 0 n n) (some ([.int .i64 x], 1)) O S = some (.bref 0 k 0 (n + 1) (n + 1), O.set k (.buf 1 (ints ((bufI O k).getD [] ++ [x]))), S) :=
  appO_more S [x] obj hb h
theorem appO_nil1 (O : Mo) (S : Ms) (x : Int) : appC 1 8 true .nils (some ([.int .i64 x], 1)) O S = some (.bref 0 O.length 0 1 1, O ++ [.buf 1 (ints [x])], S) := by
  have := appO_nil O S [x] (by simp)
  exact this
/-- The same in the present frame. -/
theorem appF_nil (O : Mo) (B : Ms) (F : List ABlk) (l : List Int) (h : l.length ≤ 1000000) : appC 1 8 false .nils (some (ints l, l.length)) O (B ++ [F]) = some (.bref (B.length + 1) F.length 0 l.length l.length, O, B ++ [F ++ [.buf 1 (ints l)]]) := by
  have h1 : l.length * 8 * 2 ≤ 140737488355328 := by omega
  simp [appC, appA, m_newD, m_newK, m_newO, m_newS, h1, ints_low, ints_len]
theorem appF_nil1 (O : Mo) (B : Ms) (F : List ABlk) (x : Int) : appC 1 8 false .nils (some ([.int .i64 x], 1)) O (B ++ [F]) = some (.bref (B.length + 1) F.length 0 1 1, O, B ++ [F ++ [.buf 1 (ints [x])]]) := appF_nil O B F [x] (by simp)
theorem appF_more {O : Mo} {B : Ms} {F : List ABlk} {k n : Nat} {l : List Int} (m : List Int) (obj : Bool) (hk : F[k]? = some (.buf 1 (ints l))) (hl : l.length = n) (h : n + m.length ≤ 1000000) :
    appC 1 8 obj (.bref (B.length + 1) k 0 n n) (some (ints m, m.length)) O (B ++ [F]) = some (.bref (B.length + 1) k 0 (n + m.length) (n + m.length), O, B ++ [F.set k (.buf 1 (ints (l ++ m)))]) := by
  have h1 : (n + m.length) * 8 * 2 ≤ 140737488355328 := by omega
  have e : ints l ++ ints m = ints (l ++ m) := by simp [ints]
  subst hl
  have e0 : (1 : Nat) = 1 ∧ (0 : Nat) = 0 ∧ l.length * 1 = l.length ∧ (ints l).length = l.length ∧ (l.length + m.length) * 8 * 2 ≤ 2 ^ 47 ∧ (ints m).all (AV.low (B.length + 1 + 1)) = true := ⟨rfl, rfl, by omega, ints_len l, h1, ints_low _ _⟩
  have e1 : smO O (B.length + 1) k (.buf 1 (ints l ++ ints m)) = O := by simp [smO]
  unfold appC appA
  simp only [gm_top, hk]
  rw [if_pos (show True ∧ True ∧ _ from ⟨trivial, trivial, e0.2.2⟩), e1, ints_len, smS_top, e]
theorem appF_one {O : Mo} {B : Ms} {F : List ABlk} {k n : Nat} {l : List Int} (x : Int) (obj : Bool) (hk : F[k]? = some (.buf 1 (ints l))) (hl : l.length = n) (h : n + 1 ≤ 1000000) :
    appC 1 8 obj (.bref (B.length + 1) k 0 n n) (some ([.int .i64 x], 1)) O (B ++ [F]) = some (.bref (B.length + 1) k 0 (n + 1) (n + 1), O, B ++ [F.set k (.buf 1 (ints (l ++ [x])))]) := appF_more [x] obj hk hl h
/-- A slice of the frame, handed out. -/
theorem snapF {B : Ms} {F : List ABlk} {k n : Nat} {l : List Int} (hk : F[k]? = some (.buf 1 (ints l))) (hl : l.length = n) (h : 0 < n) : snap1 (B ++ [F]) (.bref (B.length + 1) k 0 n n) = some (.isl (ints l) n) := by
  have h0 : ¬ n = 0 := by omega
  have e : (B ++ [F]).length = B.length + 1 := by simp
  subst hl
  simp only [snap1, e, if_true, if_neg h0, gm_top, hk, ints_len, ints_low]
  simp
theorem rdI_nils (O : Mo) : rdI O .nils = some [] := rfl
theorem rdI_bref {O : Mo} {k n : Nat} {l : List Int} (hk : O[k]? = some (.buf 1 (ints l))) (hl : l.length = n) : rdI O (.bref 0 k 0 n n) = some l := by
  subst hl
  refine rdI_mk (n := l.length) ?_
  simp only [rdS, hk, ints_len]
  simp
  exact List.take_of_length_le (by rw [ints_len]; omega)
/-- Rules. -/
def RSl := And.intro @sl_len <| And.intro @sl_ix <| And.intro @sl_ld <| And.intro @sl_conts <| And.intro @sl_low <| And.intro @sl_low1 <| And.intro @sl_lowA <| And.intro @sl_snap1 <| And.intro @sl_snap2 <| And.intro @sl_snap <| And.intro @sl_bd <| And.intro @sl_st <| And.intro @appO_nil <| And.intro @appO_more <| And.intro @appO_one <| And.intro @appO_nil1 <| And.intro @appF_nil <| And.intro @appF_more <| And.intro @appF_one <| And.intro @appF_nil1 <| And.intro @snapF <| And.intro @bsl_int <| And.intro @c_isl1 <| And.intro @rep1 <| And.intro @rep0 <| And.intro @ints_len <| @ints_get
end Den
