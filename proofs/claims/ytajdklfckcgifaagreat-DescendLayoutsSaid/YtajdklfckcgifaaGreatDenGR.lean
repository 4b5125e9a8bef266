/- Rules for slices of integers that are only read: what they hold is a list. -/
import Derived.Test.YtajdklfckcgifaaGreatDenG6
set_option linter.unusedSectionVars false
set_option linter.unusedVariables false
set_option linter.unusedSimpArgs false
set_option linter.defProp false
namespace Den
open Go

def ints (l : List Int) : List AV := l.map (AV.int .i64)
theorem ints_len (l : List Int) : (ints l).length = l.length := by simp [ints]
theorem ints_get (l : List Int) (i : Nat) : (ints l)[i]? = l[i]?.map (AV.int .i64) := by simp [ints]
theorem ints_low (lim : Nat) (l : List Int) : (ints l).all (AV.low lim) = true := by
  simp only [ints, List.all_map, List.all_eq_true]; intro x _; rfl
def toInts : List AV → Option (List Int)
  | [] => some []
  | .int .i64 n :: r => (toInts r).map (n :: ·)
  | _ :: _ => none
theorem toInts_ints : ∀ l : List Int, toInts (ints l) = some l
  | [] => rfl
  | x :: l => by
    show (toInts (ints l)).map (x :: ·) = _
    rw [toInts_ints l]; rfl
theorem toInts_eq : ∀ {cs : List AV} {l : List Int}, toInts cs = some l → cs = ints l
  | [], l, h => by cases h; rfl
  | c :: cs, l, h => by
    cases c <;> first | (cases h; done) | skip
    rename_i k n
    cases k <;> first | (cases h; done) | skip
    simp only [toInts] at h
    obtain ⟨l', h', rfl⟩ := Option.map_eq_some_iff.1 h
    rw [toInts_eq h']; rfl
/-- The cells of a slice that lies among the objects, or never changes. -/
def rdS (O : Mo) (sz : Nat) : AV → Option (List AV × Nat)
  | .nils | .emp => some ([], 0)
  | .isl cs len => if cs.length = len * sz then some (cs, len) else none
  | .sref 0 k off len _ => match O[k]? with
    | some (.arr cs) => if off + len * sz ≤ cs.length then some ((cs.drop off).take (len * sz), len) else none
    | _ => none
  | .bref 0 k off len tot => match O[k]? with
    | some (.buf _ cs) => if cs.length = tot ∧ off + len * sz ≤ cs.length then some ((cs.drop off).take (len * sz), len) else none
    | _ => none
  | _ => none
theorem rdS_conts {O : Mo} {sz : Nat} {v : AV} {p : List AV × Nat} (h : rdS O sz v = some p) (S : Ms) : conts O S sz v = some p := by
  cases v <;> first | (cases h; done) | skip
  all_goals first | exact h | skip
  · rename_i d k off len cap
    cases d <;> first | (cases h; done) | exact h
  · rename_i d k off len tot
    cases d <;> first | (cases h; done) | exact h
theorem rdS_len {O : Mo} {sz : Nat} {v : AV} {cs : List AV} {n : Nat} (h : rdS O sz v = some (cs, n)) : cs.length = n * sz := by
  cases v <;> first | (cases h; done) | skip
  · cases h; simp
  · cases h; simp
  · rename_i c len
    simp only [rdS] at h
    split at h
    · rename_i hl; cases h; exact hl
    · cases h
  · rename_i d k off len cap
    cases d with
    | succ d => cases h
    | zero =>
      simp only [rdS] at h
      split at h
      · split at h
        · rename_i hl; cases h; simp; omega
        · cases h
      · cases h
  · rename_i d k off len tot
    cases d with
    | succ d => cases h
    | zero =>
      simp only [rdS] at h
      split at h
      · split at h
        · rename_i hl; cases h; simp; omega
        · cases h
      · cases h
theorem rdS_lenA {O : Mo} {sz : Nat} {v : AV} {cs : List AV} {n : Nat} (h : rdS O sz v = some (cs, n)) (S : Ms) : lenA O S .slice v = some n := by
  cases v <;> first | (cases h; done) | skip
  · cases h; rfl
  · cases h; rfl
  · rename_i c len
    simp only [rdS] at h
    split at h
    · cases h; rfl
    · cases h
  · rename_i d k off len cap
    cases d with
    | succ d => cases h
    | zero =>
      simp only [rdS] at h
      split at h
      · split at h
        · cases h; rfl
        · cases h
      · cases h
  · rename_i d k off len tot
    cases d with
    | succ d => cases h
    | zero =>
      simp only [rdS] at h
      split at h
      · split at h
        · cases h; rfl
        · cases h
      · cases h
def rdI (O : Mo) (v : AV) : Option (List Int) := match rdS O 1 v with
  | some (cs, _) => toInts cs
  | none => none
theorem rdI_of {O : Mo} {v : AV} {l : List Int} (h : rdI O v = some l) : rdS O 1 v = some (ints l, l.length) := by
  unfold rdI at h
  split at h
  · rename_i cs n hs
    have e := toInts_eq h
    subst e
    have := rdS_len hs
    rw [ints_len] at this
    rw [hs]; simp; omega
  · cases h
theorem rdI_mk {O : Mo} {v : AV} {l : List Int} {n : Nat} (h : rdS O 1 v = some (ints l, n)) : rdI O v = some l := by
  simp only [rdI, h, toInts_ints]
theorem isS_of {α : Type} {o : Option α} {x : α} (h : o = some x) : o.isSome = true := by rw [h]; rfl
def adI (v : AV) (i : Nat) : AV := (ixaSl i 1 v).getD .undef
def lnS : AV → Option Nat
  | .nils | .emp => some 0
  | .isl _ n => some n
  | .sref _ _ _ n _ => some n
  | .bref _ _ _ n _ => some n
  | _ => none
def ixok (v : AV) (i : Nat) : Bool := match lnS v with
  | some n => decide (i < n)
  | none => false
theorem rdS_lnS {O : Mo} {sz : Nat} {v : AV} {cs : List AV} {n : Nat} (h : rdS O sz v = some (cs, n)) : lnS v = some n := by
  have := rdS_lenA h []
  cases v <;> first | (cases h; done) | exact this
theorem ixok_of {O : Mo} {v : AV} {l : List Int} {i : Nat} (h : rdI O v = some l) (hi : i < l.length) : ixok v i = true := by
  simp [ixok, rdS_lnS (rdI_of h), hi]
theorem sl_len {O : Mo} {v : AV} (S : Ms) (h : (rdI O v).isSome = true) : lenA O S .slice v = some ((rdI O v).getD []).length := by
  obtain ⟨l, hl⟩ := Option.isSome_iff_exists.1 h
  rw [rdS_lenA (rdI_of hl), hl]; rfl
theorem sl_ix {v : AV} {i : Nat} (h : ixok v i = true) : ixaSl i 1 v = some (adI v i) := by
  unfold ixok at h
  cases v <;> (simp only [lnS] at h) <;> first | (cases h; done) | skip
  all_goals
    simp only [decide_eq_true_eq] at h
    first | (exfalso; omega) | simp [adI, ixaSl, h]
theorem sl_ld {O : Mo} {v : AV} {i : Nat} (S : Ms) (h : (rdI O v).isSome = true) : ald O S 1 false (adI v i) = (((rdI O v).getD [])[i]?).map (AV.int .i64) := by
  obtain ⟨l, hl⟩ := Option.isSome_iff_exists.1 h
  rw [hl]
  have hs := rdI_of hl
  simp only [Option.getD_some]
  rw [← ints_get]
  generalize ints l = cs at hs
  generalize l.length = n at hs
  cases v <;> first | (cases hs; done) | skip
  · cases hs; rfl
  · cases hs; rfl
  · rename_i c len
    simp only [rdS] at hs
    split at hs
    · rename_i hc
      cases hs
      by_cases hi : i < n
      · simp [adI, ixaSl, hi, ald, takeV]
      · have : ¬ i < cs.length := by omega
        have hn : cs[i]? = none := List.getElem?_eq_none (by omega)
        simp [adI, ixaSl, hi, ald, hn]
    · cases hs
  · rename_i d k off len cap
    cases d with
    | succ d => cases hs
    | zero =>
      simp only [rdS] at hs
      split at hs
      · rename_i c hc
        split at hs
        · cases hs
          by_cases hi : i < n
          · simp [adI, ixaSl, hi, ald, takeV, gm, hc, List.getElem?_take]
          · simp [adI, ixaSl, hi, ald, List.getElem?_take]
        · cases hs
      · cases hs
  · rename_i d k off len tot
    cases d with
    | succ d => cases hs
    | zero =>
      simp only [rdS] at hs
      split at hs
      · rename_i c hc
        split at hs
        · rename_i ht
          cases hs
          by_cases hi : i < n
          · simp [adI, ixaSl, hi, ald, takeV, gm, hc, ht.1, List.getElem?_take]
          · simp [adI, ixaSl, hi, ald, List.getElem?_take]
        · cases hs
      · cases hs
theorem sl_conts {O : Mo} {v : AV} (S : Ms) (h : (rdI O v).isSome = true) : conts O S 1 v = some (ints ((rdI O v).getD []), ((rdI O v).getD []).length) := by
  obtain ⟨l, hl⟩ := Option.isSome_iff_exists.1 h
  rw [rdS_conts (rdI_of hl), hl]; rfl
theorem rdS_low {O : Mo} {sz : Nat} {v : AV} {p : List AV × Nat} (h : rdS O sz v = some p) (lim : Nat) : v.low (lim + 1) = true ∧ low1 (lim + 1) v = true ∧ v.one = true := by
  cases v <;> first | (cases h; done) | skip
  · exact ⟨rfl, rfl, rfl⟩
  · exact ⟨rfl, rfl, rfl⟩
  · exact ⟨rfl, rfl, rfl⟩
  · rename_i d k off len cap
    cases d with
    | succ d => cases h
    | zero => exact ⟨by simp [AV.low], by simp [low1, lowL, AV.low], rfl⟩
  · rename_i d k off len cap
    cases d with
    | succ d => cases h
    | zero => exact ⟨by simp [AV.low], by simp [low1, lowL, AV.low], rfl⟩
theorem rdS_snap {O : Mo} {sz : Nat} {v : AV} {p : List AV × Nat} (h : rdS O sz v = some p) (B : Ms) (F : List ABlk) : snap1 (B ++ [F]) v = some v ∧ snap2 (B ++ [F]) v = some v ∧ snap (B ++ [F]) v = some v := by
  cases v <;> first | (cases h; done) | skip
  · exact ⟨rfl, rfl, rfl⟩
  · exact ⟨rfl, rfl, rfl⟩
  · exact ⟨rfl, rfl, rfl⟩
  · rename_i d k off len cap
    cases d with
    | succ d => cases h
    | zero =>
      have : snap1 (B ++ [F]) (.sref 0 k off len cap) = some (.sref 0 k off len cap) := by simp [snap1]
      exact ⟨this, this, this⟩
  · rename_i d k off len cap
    cases d with
    | succ d => cases h
    | zero =>
      have : snap1 (B ++ [F]) (.bref 0 k off len cap) = some (.bref 0 k off len cap) := by simp [snap1]
      exact ⟨this, this, this⟩
/-- A value that is such a slice, whatever it holds. -/
def slOk (v : AV) : Prop := ∃ (O : Mo) (sz : Nat) (p : List AV × Nat), rdS O sz v = some p
theorem slOk_of {O : Mo} {v : AV} {l : List Int} (h : rdI O v = some l) : slOk v := ⟨_, _, _, rdI_of h⟩
theorem sl_low {v : AV} {lim : Nat} (h : slOk v) : v.low (lim + 1) = true := by obtain ⟨_, _, _, h⟩ := h; exact (rdS_low h _).1
theorem sl_low1 {v : AV} {lim : Nat} (h : slOk v) : low1 (lim + 1) v = true := by obtain ⟨_, _, _, h⟩ := h; exact (rdS_low h _).2.1
theorem sl_lowA {v : AV} (h : slOk v) : low1 1 v = true := by obtain ⟨_, _, _, h⟩ := h; exact (rdS_low h 0).2.1
theorem sl_snap1 {v : AV} {B : Ms} {F : List ABlk} (h : slOk v) : snap1 (B ++ [F]) v = some v := by obtain ⟨_, _, _, h⟩ := h; exact (rdS_snap h _ _).1
theorem sl_snap2 {v : AV} {B : Ms} {F : List ABlk} (h : slOk v) : snap2 (B ++ [F]) v = some v := by obtain ⟨_, _, _, h⟩ := h; exact (rdS_snap h _ _).2.1
theorem sl_snap {v : AV} {B : Ms} {F : List ABlk} (h : slOk v) : snap (B ++ [F]) v = some v := by obtain ⟨_, _, _, h⟩ := h; exact (rdS_snap h _ _).2.2
theorem sl_bd {v : AV} {off : Nat} {cells : List AV} {rest : List (Nat × Nat × Opd)} {le : List AV} (h : slOk v) : bldC v off 1 cells rest le = gA (decide (off < cells.length)) (buildA le (cells.set off v) rest) := by
  obtain ⟨_, _, _, h⟩ := h; exact g_bd1 _ _ _ _ _ (rdS_low h 0).2.2
theorem sl_st {O : Mo} {B : Ms} {F : List ABlk} {i off : Nat} {cs : List AV} {v : AV} (h : slOk v) : stTop (some (.arr cs)) 1 off v O B F i = gA (decide (off < cs.length) && v.low (B.length + 1 + 1)) (some (O, B ++ [F.set i (.arr (cs.set off v))])) := by
  obtain ⟨_, _, _, h⟩ := h; exact g_st1 _ _ _ _ _ _ _ (rdS_low h 0).2.2
def slVar (b : Option (Nat × Nat)) (v : AV) (sz : Nat) : Option AV :=
  match b, v with
  | some (l, h), .isl cs _ => some (.isl ((cs.drop (l * sz)).take ((h - l) * sz)) (h - l))
  | some (l, h), .sref d k off _ cap => some (.sref d k (off + l * sz) (h - l) (cap - l))
  | some (l, h), .bref d k off _ tot => some (.bref d k (off + l * sz) (h - l) tot)
  | some _, .nils => some .nils
  | _, _ => none
/-- Appending: to nothing, and behind what was appended to nothing. -/
theorem appO_nil (O : Mo) (S : Ms) (l : List Int) (h : l.length ≤ 1000000) : appC 1 8 true .nils (some (ints l, l.length)) O S = some (.bref 0 O.length 0 l.length l.length, O ++ [.buf 1 (ints l)], S) := by
  have h1 : l.length * 8 * 2 ≤ 140737488355328 := by omega
  simp [appC, appA, newD, newK, newO, newS, h1, ints_low, ints_len]
def bufI (O : Mo) (k : Nat) : Option (List Int) := match O[k]? with
  | some (.buf 1 cs) => toInts cs
  | _ => none
theorem bufI_of {O : Mo} {k : Nat} {l : List Int} (h : bufI O k = some l) : O[k]? = some (.buf 1 (ints l)) := by
  unfold bufI at h
  split at h
  · rename_i cs e; rw [e, toInts_eq h]
  · cases h
theorem bufI_mk {O : Mo} {k : Nat} {l : List Int} (h : O[k]? = some (.buf 1 (ints l))) : bufI O k = some l := by
  simp only [bufI, h, toInts_ints]
def bufOk (O : Mo) (k n : Nat) : Prop := ∃ l, bufI O k = some l ∧ l.length = n
theorem bufOk_of {O : Mo} {k n : Nat} {l : List Int} (h : bufI O k = some l) (hl : l.length = n) : bufOk O k n := ⟨l, h, hl⟩
theorem appO_more {O : Mo} {k n : Nat} (S : Ms) (m : List Int) (obj : Bool) (hb : bufOk O k n) (h : n + m.length ≤ 1000000) :
    appC 1 8 obj (.bref 0 k 0 n n) (some (ints m, m.length)) O S = some (.bref 0 k 0 (n + m.length) (n + m.length), O.set k (.buf 1 (ints ((bufI O k).getD [] ++ m))), S) := by
  obtain ⟨l, hb, hl⟩ := hb
  have hk := bufI_of hb
  rw [hb, Option.getD_some]
  have h1 : (n + m.length) * 8 * 2 ≤ 140737488355328 := by omega
  have e : ints l ++ ints m = ints (l ++ m) := by simp [ints]
  subst hl
  have e0 : (1 : Nat) = 1 ∧ (0 : Nat) = 0 ∧ l.length * 1 = l.length ∧ (ints l).length = l.length ∧ (l.length + m.length) * 8 * 2 ≤ 2 ^ 47 ∧ (ints m).all (AV.low (0 + 1)) = true := ⟨rfl, rfl, by omega, ints_len l, h1, ints_low _ _⟩
  have e1 : smO O 0 k (.buf 1 (ints l ++ ints m)) = O.set k (.buf 1 (ints (l ++ m))) := by rw [e]; rfl
  unfold appC appA
  simp only [gm_0, hk]
  rw [if_pos (show True ∧ True ∧ _ from ⟨trivial, trivial, e0.2.2⟩), e1, ints_len]; rfl
theorem appO_one {O : Mo} {k n : Nat} (S : Ms) (x : Int) (obj : Bool) (hb : bufOk O k n) (h : n + 1 ≤ 1000000) :
    appC 1 8 obj (.bref 0 k 0 n n) (some ([.int .i64 x], 1)) O S = some (.bref 0 k 0 (n + 1) (n + 1), O.set k (.buf 1 (ints ((bufI O k).getD [] ++ [x]))), S) :=
  appO_more S [x] obj hb h
theorem appO_nil1 (O : Mo) (S : Ms) (x : Int) : appC 1 8 true .nils (some ([.int .i64 x], 1)) O S = some (.bref 0 O.length 0 1 1, O ++ [.buf 1 (ints [x])], S) := by
  have := appO_nil O S [x] (by simp)
  exact this
/-- The same in the present frame. -/
theorem appF_nil (O : Mo) (B : Ms) (F : List ABlk) (l : List Int) (h : l.length ≤ 1000000) : appC 1 8 false .nils (some (ints l, l.length)) O (B ++ [F]) = some (.bref (B.length + 1) F.length 0 l.length l.length, O, B ++ [F ++ [.buf 1 (ints l)]]) := by
  have h1 : l.length * 8 * 2 ≤ 140737488355328 := by omega
  simp [appC, appA, m_newD, m_newK, m_newO, m_newS, h1, ints_low, ints_len]
theorem appF_nil1 (O : Mo) (B : Ms) (F : List ABlk) (x : Int) : appC 1 8 false .nils (some ([.int .i64 x], 1)) O (B ++ [F]) = some (.bref (B.length + 1) F.length 0 1 1, O, B ++ [F ++ [.buf 1 (ints [x])]]) := appF_nil O B F [x] (by simp)
theorem appF_more {O : Mo} {B : Ms} {F : List ABlk} {k n : Nat} {l : List Int} (m : List Int) (obj : Bool) (hk : F[k]? = some (.buf 1 (ints l))) (hl : l.length = n) (h : n + m.length ≤ 1000000) :
    appC 1 8 obj (.bref (B.length + 1) k 0 n n) (some (ints m, m.length)) O (B ++ [F]) = some (.bref (B.length + 1) k 0 (n + m.length) (n + m.length), O, B ++ [F.set k (.buf 1 (ints (l ++ m)))]) := by
  have h1 : (n + m.length) * 8 * 2 ≤ 140737488355328 := by omega
  have e : ints l ++ ints m = ints (l ++ m) := by simp [ints]
  subst hl
  have e0 : (1 : Nat) = 1 ∧ (0 : Nat) = 0 ∧ l.length * 1 = l.length ∧ (ints l).length = l.length ∧ (l.length + m.length) * 8 * 2 ≤ 2 ^ 47 ∧ (ints m).all (AV.low (B.length + 1 + 1)) = true := ⟨rfl, rfl, by omega, ints_len l, h1, ints_low _ _⟩
  have e1 : smO O (B.length + 1) k (.buf 1 (ints l ++ ints m)) = O := by simp [smO]
  unfold appC appA
  simp only [gm_top, hk]
  rw [if_pos (show True ∧ True ∧ _ from ⟨trivial, trivial, e0.2.2⟩), e1, ints_len, smS_top, e]
theorem appF_one {O : Mo} {B : Ms} {F : List ABlk} {k n : Nat} {l : List Int} (x : Int) (obj : Bool) (hk : F[k]? = some (.buf 1 (ints l))) (hl : l.length = n) (h : n + 1 ≤ 1000000) :
    appC 1 8 obj (.bref (B.length + 1) k 0 n n) (some ([.int .i64 x], 1)) O (B ++ [F]) = some (.bref (B.length + 1) k 0 (n + 1) (n + 1), O, B ++ [F.set k (.buf 1 (ints (l ++ [x])))]) := appF_more [x] obj hk hl h
/-- A slice of the frame, handed out. -/
theorem snapF {B : Ms} {F : List ABlk} {k n : Nat} {l : List Int} (hk : F[k]? = some (.buf 1 (ints l))) (hl : l.length = n) (h : 0 < n) : snap1 (B ++ [F]) (.bref (B.length + 1) k 0 n n) = some (.isl (ints l) n) := by
  have h0 : ¬ n = 0 := by omega
  have e : (B ++ [F]).length = B.length + 1 := by simp
  subst hl
  simp only [snap1, e, if_true, if_neg h0, gm_top, hk, ints_len, ints_low]
  simp
theorem rdI_bref {O : Mo} {k n : Nat} {l : List Int} (hk : O[k]? = some (.buf 1 (ints l))) (hl : l.length = n) : rdI O (.bref 0 k 0 n n) = some l := by
  subst hl
  refine rdI_mk (n := l.length) ?_
  simp only [rdS, hk, ints_len]
  simp
  exact List.take_of_length_le (by rw [ints_len]; omega)
/-- Rules. -/
def RSl := And.intro @sl_len <| And.intro @sl_ix <| And.intro @sl_ld <| And.intro @sl_conts <| And.intro @sl_low <| And.intro @sl_low1 <| And.intro @sl_lowA <| And.intro @sl_snap1 <| And.intro @sl_snap2 <| And.intro @sl_snap <| And.intro @sl_bd <| And.intro @sl_st <| And.intro @appO_nil <| And.intro @appO_more <| And.intro @appO_one <| And.intro @appO_nil1 <| And.intro @appF_nil <| And.intro @appF_more <| And.intro @appF_one <| And.intro @appF_nil1 <| And.intro @snapF <| And.intro @bsl_int <| And.intro @c_isl1 <| And.intro @rep1 <| And.intro @rep0 <| And.intro @ints_len <| @ints_get
end Den

/- Rules for slices of objects that are only read, and for slices that grow from nothing, among the objects. -/
set_option linter.unusedSectionVars false
set_option linter.unusedVariables false
set_option linter.unusedSimpArgs false
set_option linter.defProp false
namespace Den
open Go

def refs (l : List Nat) : List AV := l.map (fun k => AV.ref 0 k 0)
theorem refs_len (l : List Nat) : (refs l).length = l.length := by simp [refs]
theorem refs_get (l : List Nat) (i : Nat) : (refs l)[i]? = l[i]?.map (fun k => AV.ref 0 k 0) := by simp [refs]
def toRefs : List AV → Option (List Nat)
  | [] => some []
  | .ref 0 k 0 :: r => (toRefs r).map (k :: ·)
  | _ :: _ => none
theorem toRefs_refs : ∀ l : List Nat, toRefs (refs l) = some l
  | [] => rfl
  | x :: l => by
    show (toRefs (refs l)).map (x :: ·) = _
    rw [toRefs_refs l]; rfl
theorem toRefs_eq : ∀ {cs : List AV} {l : List Nat}, toRefs cs = some l → cs = refs l
  | [], l, h => by cases h; rfl
  | c :: cs, l, h => by
    unfold toRefs at h
    split at h
    · rename_i e; cases e
    · rename_i k r e
      cases e
      obtain ⟨l', h', rfl⟩ := Option.map_eq_some_iff.1 h
      rw [toRefs_eq h']; rfl
    · cases h
def rdR (O : Mo) (v : AV) : Option (List Nat) := match rdS O 1 v with
  | some (cs, _) => toRefs cs
  | none => none
theorem rdR_of {O : Mo} {v : AV} {l : List Nat} (h : rdR O v = some l) : rdS O 1 v = some (refs l, l.length) := by
  unfold rdR at h
  split at h
  · rename_i cs n hs
    have e := toRefs_eq h
    subst e
    have := rdS_len hs
    rw [refs_len] at this
    rw [hs]; simp; omega
  · cases h
theorem rdR_mk {O : Mo} {v : AV} {l : List Nat} {n : Nat} (h : rdS O 1 v = some (refs l, n)) : rdR O v = some l := by
  simp only [rdR, h, toRefs_refs]
theorem ixok_ofR {O : Mo} {v : AV} {l : List Nat} {i : Nat} (h : rdR O v = some l) (hi : i < l.length) : ixok v i = true := by
  simp [ixok, rdS_lnS (rdR_of h), hi]
theorem sr_len {O : Mo} {v : AV} (S : Ms) (h : (rdR O v).isSome = true) : lenA O S .slice v = some ((rdR O v).getD []).length := by
  obtain ⟨l, hl⟩ := Option.isSome_iff_exists.1 h
  rw [rdS_lenA (rdR_of hl), hl]; rfl
theorem ad_ld {O : Mo} {v : AV} {cs : List AV} {n : Nat} (hs : rdS O 1 v = some (cs, n)) (S : Ms) (i : Nat) : ald O S 1 false (adI v i) = cs[i]? := by
  cases v <;> first | (cases hs; done) | skip
  · cases hs; rfl
  · cases hs; rfl
  · rename_i c len
    simp only [rdS] at hs
    split at hs
    · rename_i hc
      cases hs
      by_cases hi : i < n
      · simp [adI, ixaSl, hi, ald, takeV]
      · have hn : cs[i]? = none := List.getElem?_eq_none (by omega)
        simp [adI, ixaSl, hi, ald, hn]
    · cases hs
  · rename_i d k off len cap
    cases d with
    | succ d => cases hs
    | zero =>
      simp only [rdS] at hs
      split at hs
      · rename_i c hc
        split at hs
        · cases hs
          by_cases hi : i < n
          · simp [adI, ixaSl, hi, ald, takeV, gm, hc, List.getElem?_take]
          · simp [adI, ixaSl, hi, ald, List.getElem?_take]
        · cases hs
      · cases hs
  · rename_i d k off len tot
    cases d with
    | succ d => cases hs
    | zero =>
      simp only [rdS] at hs
      split at hs
      · rename_i c hc
        split at hs
        · rename_i ht
          cases hs
          by_cases hi : i < n
          · simp [adI, ixaSl, hi, ald, takeV, gm, hc, ht.1, List.getElem?_take]
          · simp [adI, ixaSl, hi, ald, List.getElem?_take]
        · cases hs
      · cases hs
theorem sr_ld {O : Mo} {v : AV} {i : Nat} (S : Ms) (h : (rdR O v).isSome = true) : ald O S 1 false (adI v i) = (((rdR O v).getD [])[i]?).map (fun k => AV.ref 0 k 0) := by
  obtain ⟨l, hl⟩ := Option.isSome_iff_exists.1 h
  rw [ad_ld (rdR_of hl), hl, refs_get]; rfl
theorem slOk_ofR {O : Mo} {v : AV} {l : List Nat} (h : rdR O v = some l) : slOk v := ⟨_, _, _, rdR_of h⟩

/-! Slices that grow -/
def growI (O : Mo) (v : AV) (m : List Int) : Option (AV × Mo) :=
  if m.length ≤ 1000 then match v with
    | .nils => some (.bref 0 O.length 0 m.length m.length, O ++ [.buf 1 (ints m)])
    | .bref 0 k 0 n tot => match bufI O k with
      | some l => if l.length = n ∧ tot = n ∧ n ≤ 100000 then some (.bref 0 k 0 (n + m.length) (n + m.length), O.set k (.buf 1 (ints (l ++ m)))) else none
      | none => none
    | _ => none
  else none
theorem gr_many {O : Mo} {v : AV} {m : List Int} (S : Ms) (h : (growI O v m).isSome = true) : appC 1 8 true v (some (ints m, m.length)) O S = some (((growI O v m).getD (.undef, [])).1, ((growI O v m).getD (.undef, [])).2, S) := by
  obtain ⟨p, hp⟩ := Option.isSome_iff_exists.1 h
  rw [hp]
  unfold growI at hp
  split at hp
  · rename_i hm
    split at hp
    · cases hp; exact appO_nil O S m (by omega)
    · rename_i k n tot
      split at hp
      · rename_i l hl
        split at hp
        · rename_i hc
          cases hp
          obtain ⟨h1, rfl, h3⟩ := hc
          have := appO_more (O := O) (k := k) (n := tot) S m true ⟨l, hl, h1⟩ (by omega)
          rw [hl] at this; exact this
        · cases hp
      · cases hp
    · cases hp
  · cases hp
theorem gr_one {O : Mo} {v : AV} {x : Int} (S : Ms) (h : (growI O v [x]).isSome = true) : appC 1 8 true v (some ([.int .i64 x], 1)) O S = some (((growI O v [x]).getD (.undef, [])).1, ((growI O v [x]).getD (.undef, [])).2, S) := gr_many S h
/-- A growing slice holds a list. -/
def GrI (O : Mo) (v : AV) (l : List Int) : Prop := (v = .nils ∧ l = []) ∨ ∃ k, v = .bref 0 k 0 l.length l.length ∧ O[k]? = some (.buf 1 (ints l))
def own : AV → List Nat
  | .bref 0 k _ _ _ => [k]
  | _ => []
theorem GrI.rd {O : Mo} {v : AV} {l : List Int} (h : GrI O v l) : rdI O v = some l := by
  rcases h with ⟨rfl, rfl⟩ | ⟨k, rfl, hk⟩
  · rfl
  · exact rdI_bref hk rfl
theorem GrI.ln {O : Mo} {v : AV} {l : List Int} (h : GrI O v l) : lnS v = some l.length := by
  rcases h with ⟨rfl, rfl⟩ | ⟨k, rfl, hk⟩ <;> rfl
theorem grow_ok {O : Mo} {v : AV} {l m : List Int} (h : GrI O v l) (hl : l.length ≤ 100000) (hm : m.length ≤ 1000) :
    ∃ v' O', growI O v m = some (v', O') ∧ GrI O' v' (l ++ m) ∧ O.length ≤ O'.length ∧ (∀ j, j < O.length → j ∉ own v → O'[j]? = O[j]?) ∧ (own v' = own v ∨ own v' = [O.length]) := by
  rcases h with ⟨rfl, rfl⟩ | ⟨k, rfl, hk⟩
  · refine ⟨.bref 0 O.length 0 m.length m.length, O ++ [.buf 1 (ints m)], by simp [growI, hm], Or.inr ⟨O.length, by simp, by simp⟩, by simp, fun j hj _ => List.getElem?_append_left hj, Or.inr rfl⟩
  · have hkl := (List.getElem?_eq_some_iff.1 hk).1
    refine ⟨.bref 0 k 0 (l.length + m.length) (l.length + m.length), O.set k (.buf 1 (ints (l ++ m))), by simp [growI, hm, bufI_mk hk, hl], Or.inr ⟨k, by simp, ?_⟩, by simp, fun j hj hn => ?_, Or.inl rfl⟩
    · rw [List.getElem?_set_self hkl]
    · simp only [own, List.mem_singleton] at hn
      rw [List.getElem?_set_ne (fun e => hn e.symm)]
def bufR (O : Mo) (k : Nat) : Option (List Nat) := match O[k]? with
  | some (.buf 1 cs) => toRefs cs
  | _ => none
def growR (O : Mo) (v : AV) (x : Nat) : Option (AV × Mo) :=
  match v with
    | .nils => some (.bref 0 O.length 0 1 1, O ++ [.buf 1 (refs [x])])
    | .bref 0 k 0 n tot => match bufR O k with
      | some l => if l.length = n ∧ tot = n ∧ n ≤ 100000 then some (.bref 0 k 0 (n + 1) (n + 1), O.set k (.buf 1 (refs (l ++ [x])))) else none
      | none => none
    | _ => none
theorem gr_ref {O : Mo} {v : AV} {x : Nat} (S : Ms) (h : (growR O v x).isSome = true) : appC 1 8 true v (some ([.ref 0 x 0], 1)) O S = some (((growR O v x).getD (.undef, [])).1, ((growR O v x).getD (.undef, [])).2, S) := by
  obtain ⟨p, hp⟩ := Option.isSome_iff_exists.1 h
  rw [hp]
  unfold growR at hp
  split at hp
  · cases hp
    simp [appC, appA, newD, newK, newO, newS, AV.low, refs]
  · rename_i k n tot
    split at hp
    · rename_i l hl
      split at hp
      · rename_i hc
        cases hp
        obtain ⟨h1, rfl, h3⟩ := hc
        have hk : O[k]? = some (.buf 1 (refs l)) := by
          unfold bufR at hl
          split at hl
          · rename_i cs e; rw [e, toRefs_eq hl]
          · cases hl
        subst h1
        have e0 : l.length * 1 = l.length ∧ (refs l).length = l.length ∧ (l.length + 1) * 8 * 2 ≤ 2 ^ 47 ∧ [AV.ref 0 x 0].all (AV.low (0 + 1)) = true := ⟨by omega, refs_len l, by omega, by simp [AV.low]⟩
        have e1 : smO O 0 k (.buf 1 (refs l ++ [.ref 0 x 0])) = O.set k (.buf 1 (refs (l ++ [x]))) := by simp [smO, refs]
        unfold appC appA
        simp only [gm_0, hk]
        rw [if_pos (show True ∧ True ∧ _ from ⟨trivial, trivial, e0⟩), e1]; rfl
      · cases hp
    · cases hp
  · cases hp
def GrR (O : Mo) (v : AV) (l : List Nat) : Prop := (v = .nils ∧ l = []) ∨ ∃ k, v = .bref 0 k 0 l.length l.length ∧ O[k]? = some (.buf 1 (refs l))
theorem rdR_bref {O : Mo} {k n : Nat} {l : List Nat} (hk : O[k]? = some (.buf 1 (refs l))) (hl : l.length = n) : rdR O (.bref 0 k 0 n n) = some l := by
  subst hl
  refine rdR_mk (n := l.length) ?_
  simp only [rdS, hk, refs_len]
  simp
  exact List.take_of_length_le (by rw [refs_len]; omega)
theorem GrR.rd {O : Mo} {v : AV} {l : List Nat} (h : GrR O v l) : rdR O v = some l := by
  rcases h with ⟨rfl, rfl⟩ | ⟨k, rfl, hk⟩
  · rfl
  · exact rdR_bref hk rfl
/-! Literals among the objects -/
theorem bsl_intO (k : IntKind) (n : Int) (O : Mo) (S : Ms) : bslC 1 1 false true (some [.int k n]) O S = some (.isl [.int k n] 1, O, S) := rfl
theorem bsl_refO (x : Nat) (O : Mo) (S : Ms) : bslC 1 1 true true (some [.ref 0 x 0]) O S = some (.bref 0 O.length 0 1 1, O ++ [.buf 1 [.ref 0 x 0]], S) := by
  simp [bslC, newD, newK, newO, newS, AV.low]
theorem conts_last (v : AV) (O : Mo) (S : Ms) : conts (O ++ [.buf 1 [v]]) S 1 (.bref 0 O.length 0 1 1) = some ([v], 1) := by
  simp [conts, gm_0]

/-! Parts of slices -/
def slI (v : AV) (l h : Nat) : AV := (slVar (some (l, h)) v 1).getD .undef
def slBnd (b : Option (Nat × Nat)) (v : AV) : Option AV := match b with
  | some (l, h) => some (slI v l h)
  | none => none
def slLn (v : AV) : Bool := match v with
  | .isl .. | .sref .. | .bref .. | .nils => true
  | _ => false
abbrev slLnO (v : AV) : Prop := slLn v = true
theorem sl_slc {v : AV} (le : List AV) (lo hi : Option Opd) (h : slLnO v) : slcA le lo hi 1 v = slBnd (bounds le lo hi ((lnS v).getD 0)) v := by
  cases v <;> first | (cases h; done) | skip
  · simp only [slcA, lnS, Option.getD_some]; cases bounds le lo hi 0 <;> rfl
  · rename_i cs len; simp only [slcA, lnS, Option.getD_some]; cases bounds le lo hi len <;> rfl
  · rename_i d k off len cap; simp only [slcA, lnS, Option.getD_some]; cases bounds le lo hi len <;> rfl
  · rename_i d k off len tot; simp only [slcA, lnS, Option.getD_some]; cases bounds le lo hi len <;> rfl
theorem sl_slcS (l h : Nat) (v : AV) : slBnd (some (l, h)) v = some (slI v l h) := rfl
def lenOk (O : Mo) (v : AV) (n : Nat) : Prop := ∃ l, rdI O v = some l ∧ n ≤ l.length
theorem lenOk_of {O : Mo} {v : AV} {l : List Int} {n : Nat} (h : rdI O v = some l) (hn : n ≤ l.length) : lenOk O v n := ⟨l, h, hn⟩
theorem rdS_slI {O : Mo} {v : AV} {cs : List AV} {n lo hi : Nat} (hs : rdS O 1 v = some (cs, n)) (h1 : lo ≤ hi) (h2 : hi ≤ n) (hne : v ≠ .emp) : rdS O 1 (slI v lo hi) = some ((cs.drop lo).take (hi - lo), hi - lo) := by
  cases v <;> first | (cases hs; done) | skip
  · cases hs; simp at h2; subst h2; simp at h1; subst h1; rfl
  · exact absurd rfl hne
  · rename_i c len
    simp only [rdS] at hs
    split at hs
    · rename_i hc; cases hs; simp [slI, slVar, rdS]; omega
    · cases hs
  · rename_i d k off len cap
    cases d with
    | succ d => cases hs
    | zero =>
      simp only [rdS] at hs
      split at hs
      · rename_i c hc
        split at hs
        · rename_i hl
          cases hs
          simp only [slI, slVar, Option.getD_some, rdS, hc]
          rw [if_pos (by omega)]
          simp only [Nat.mul_one, Option.some.injEq, Prod.mk.injEq, and_true]
          rw [← List.drop_drop, List.drop_take, List.take_take]
          congr 1; omega
        · cases hs
      · cases hs
  · rename_i d k off len tot
    cases d with
    | succ d => cases hs
    | zero =>
      simp only [rdS] at hs
      split at hs
      · rename_i c hc
        split at hs
        · rename_i hl
          cases hs
          simp only [slI, slVar, Option.getD_some, rdS, hc]
          rw [if_pos ⟨hl.1, by omega⟩]
          simp only [Nat.mul_one, Option.some.injEq, Prod.mk.injEq, and_true]
          rw [← List.drop_drop, List.drop_take, List.take_take]
          congr 1; omega
        · cases hs
      · cases hs
theorem ints_part (l : List Int) (a b : Nat) : ((ints l).drop a).take b = ints ((l.drop a).take b) := by simp [ints, List.map_take, List.map_drop]
theorem rdI_slI {O : Mo} {v : AV} {l : List Int} {lo hi : Nat} (h : rdI O v = some l) (h1 : lo ≤ hi) (h2 : hi ≤ l.length) (hne : v ≠ .emp) : rdI O (slI v lo hi) = some ((l.drop lo).take (hi - lo)) := by
  refine rdI_mk (n := hi - lo) ?_
  rw [rdS_slI (rdI_of h) h1 h2 hne, ints_part]
theorem sl_contsP {O : Mo} {v : AV} {lo hi : Nat} (S : Ms) (h0 : slLnO v) (h1 : lo ≤ hi) (h2 : lenOk O v hi) : conts O S 1 (slI v lo hi) = some (ints ((((rdI O v).getD []).drop lo).take (hi - lo)), ((((rdI O v).getD []).drop lo).take (hi - lo)).length) := by
  obtain ⟨l, hl, hn⟩ := h2
  have hne : v ≠ .emp := fun e => by subst e; cases h0
  rw [rdS_conts (rdI_of (rdI_slI hl h1 hn hne)), hl]; rfl
/-- Rules. -/
def RSr := And.intro @sr_len <| And.intro @sr_ld <| And.intro @gr_many <| And.intro @gr_one <| And.intro @gr_ref <| And.intro @bsl_intO <| And.intro @bsl_refO <| And.intro @conts_last <| And.intro @sl_slc <| And.intro @sl_slcS <| And.intro @sl_contsP <| And.intro @bounds_eq <| And.intro @bnd_some <| And.intro @bnd_none <| And.intro @bndC_P <| And.intro @s_nils <| @s_nilsS
end Den

/- Rules for maps from integers to objects, and for slices of bytes that are only read. -/
set_option linter.unusedSectionVars false
set_option linter.unusedVariables false
set_option linter.unusedSimpArgs false
set_option linter.defProp false
namespace Den
open Go

section
variable {cfg : Cfg} {call : FuncId → List AV → List ABlk → List (List ABlk) → Ans} {l : List AOp} {dst : Option Nat} (st : St)
theorem r_mkm (obj : Bool) : execOps cfg call (⟨dst, none, .mkm obj, []⟩ :: l) st = putM cfg call (some (.map (newD st.S obj) (newK st.O st.S obj), newO st.O obj (.map []), newS st.S obj (.map []))) dst l st := r_opM _ st _ rfl rfl
theorem r_appX (sz bytes : Nat) (x y : Opd) (obj : Bool) (c : Nat × AO) (chk : List (Nat × AO)) : execOps cfg call (⟨dst, none, .app sz bytes x y obj, c :: chk⟩ :: l) st = putX cfg call (appC sz bytes obj (ev st.env x) (conts st.O st.S sz (ev st.env y)) st.O st.S) dst (c :: chk) l st := by
  have e : aop st (.app sz bytes x y obj) = appC sz bytes obj (ev st.env x) (conts st.O st.S sz (ev st.env y)) st.O st.S := by
    simp only [aop, appC]; cases conts st.O st.S sz (ev st.env y) <;> rfl
  simp only [execOps, wanted, opx, AO.isCall, Bool.false_eq_true, if_false, e]
  cases appC sz bytes obj (ev st.env x) (conts st.O st.S sz (ev st.env y)) st.O st.S with
  | none => rfl
  | some v => obtain ⟨v, O, S⟩ := v; simp [putX]
theorem chkC_beq (v w : AV) : chkC (some v) w = AV.beq v w := rfl
def mupC (q : SK) (m k v : AV) (O : Mo) (S : Ms) : Ans := match m with
    | .map d i => match gm O S d i with
      | some (.map es) =>
        if k.one = true ∧ v.one = true ∧ k.low 0 = true ∧ v.low (d + 1) = true ∧ (findE q k es).isSome = true then
          some (.undef, smO O d i (.map (putE q k v es)), smS S d i (.map (putE q k v es)))
        else none
      | _ => none
    | _ => none
theorem r_mup (q : SK) (m k v : Opd) : execOps cfg call (⟨dst, none, .mup q m k v, []⟩ :: l) st = putM cfg call (mupC q (ev st.env m) (ev st.env k) (ev st.env v) st.O st.S) dst l st := r_opM _ st _ rfl rfl
def lkpC (q : SK) (zero : AV) (ok : Bool) (m k : AV) (O : Mo) (S : Ms) : Option AV := match m with
    | .map d i => match gm O S d i with
      | some (.map es) => match findE q k es with
        | some (some v) => some (if ok then .tup [v, .bool true] else v)
        | some none => some (if ok then .tup [zero, .bool false] else zero)
        | none => none
      | _ => none
    | .nilm => match findE q k [] with
      | some _ => some (if ok then .tup [zero, .bool false] else zero)
      | none => none
    | _ => none
theorem r_lkp (q : SK) (zero : AV) (ok : Bool) (m k : Opd) : execOps cfg call (⟨dst, none, .lkp q zero ok m k, []⟩ :: l) st = putC cfg call (lkpC q zero ok (ev st.env m) (ev st.env k) st.O st.S) dst l st := r_op _ st _ rfl (by
  simp only [aop, lkpC]
  cases ev st.env m <;> (try rfl)
  · rename_i d i
    simp only
    cases gm st.O st.S d i with
    | none => rfl
    | some b =>
      cases b <;> (try rfl)
      rename_i es
      simp only
      cases findE q (ev st.env k) es with
      | none => rfl
      | some r => cases r <;> rfl)
end
def encM (l : List (Int × Nat)) : List (AV × AV) := l.map fun p => (.int .i64 p.1, .ref 0 p.2 0)
def toM : List (AV × AV) → Option (List (Int × Nat))
  | [] => some []
  | (.int .i64 a, .ref 0 k 0) :: r => (toM r).map ((a, k) :: ·)
  | _ :: _ => none
theorem toM_eq : ∀ {es : List (AV × AV)} {l : List (Int × Nat)}, toM es = some l → es = encM l
  | [], l, h => by cases h; rfl
  | c :: cs, l, h => by
    unfold toM at h
    split at h
    · rename_i e; cases e
    · rename_i a k r e
      cases e
      obtain ⟨l', h', rfl⟩ := Option.map_eq_some_iff.1 h
      rw [toM_eq h']; rfl
    · cases h
def lookI (x : Int) : List (Int × Nat) → Option Nat
  | [] => none
  | (a, k) :: l => if x = a then some k else lookI x l
def putI (x : Int) (k : Nat) : List (Int × Nat) → List (Int × Nat)
  | [] => [(x, k)]
  | (a, j) :: l => if x = a then (x, k) :: l else (a, j) :: putI x k l
theorem findE_enc (x : Int) : ∀ l, findE .int (.int .i64 x) (encM l) = some ((lookI x l).map fun k => .ref 0 k 0)
  | [] => rfl
  | (a, k) :: l => by
    show (match eqCell .int (.int .i64 x) (.int .i64 a) with | some true => _ | some false => _ | none => _) = _
    simp only [eqCell, if_true, lookI]
    by_cases h : x = a
    · subst h; simp
    · rw [if_neg h]
      have : (x == a) = false := by simpa using h
      rw [this]
      exact findE_enc x l
theorem putE_enc (x : Int) (k : Nat) : ∀ l, putE .int (.int .i64 x) (.ref 0 k 0) (encM l) = encM (putI x k l)
  | [] => rfl
  | (a, j) :: l => by
    show (match eqCell .int (.int .i64 x) (.int .i64 a) with | some true => _ | _ => _) = _
    simp only [eqCell, if_true, putI]
    by_cases h : x = a
    · subst h; simp [encM]
    · rw [if_neg h]
      have : (x == a) = false := by simpa using h
      rw [this]
      show _ :: putE .int (.int .i64 x) (.ref 0 k 0) (encM l) = _
      rw [putE_enc x k l]; rfl
def mapI (O : Mo) (i : Nat) : Option (List (Int × Nat)) := match O[i]? with
  | some (.map es) => toM es
  | _ => none
theorem mapI_of {O : Mo} {i : Nat} {l : List (Int × Nat)} (h : mapI O i = some l) : O[i]? = some (.map (encM l)) := by
  unfold mapI at h
  split at h
  · rename_i es e; rw [e, toM_eq h]
  · cases h
theorem mup_I {O : Mo} {i : Nat} (S : Ms) (x : Int) (k : Nat) (h : (mapI O i).isSome = true) : mupC .int (.map 0 i) (.int .i64 x) (.ref 0 k 0) O S = some (.undef, O.set i (.map (encM (putI x k ((mapI O i).getD [])))), S) := by
  obtain ⟨l, hl⟩ := Option.isSome_iff_exists.1 h
  have := mapI_of hl
  simp [mupC, gm_0, this, hl, findE_enc, putE_enc, AV.one, AV.low, smO, smS]
def lkV : Option Nat → AV
  | some k => .ref 0 k 0
  | none => .nilp
theorem lkV_s (k : Nat) : lkV (some k) = .ref 0 k 0 := rfl
theorem lkV_n : lkV none = .nilp := rfl
theorem lkp_I {O : Mo} {i : Nat} (S : Ms) (x : Int) (h : (mapI O i).isSome = true) : lkpC .int .nilp false (.map 0 i) (.int .i64 x) O S = some (lkV (lookI x ((mapI O i).getD []))) := by
  obtain ⟨l, hl⟩ := Option.isSome_iff_exists.1 h
  have := mapI_of hl
  simp only [lkpC, gm_0, this, hl, findE_enc, Option.getD_some]
  cases lookI x l <;> rfl

/-! Bytes -/
def toB8 : List AV → Option (List Int)
  | [] => some []
  | .int .u8 n :: r => (toB8 r).map (n :: ·)
  | _ :: _ => none
def enc8 (l : List Int) : List AV := l.map (AV.int .u8)
theorem toB8_eq : ∀ {cs : List AV} {l : List Int}, toB8 cs = some l → cs = enc8 l
  | [], l, h => by cases h; rfl
  | c :: cs, l, h => by
    unfold toB8 at h
    split at h
    · rename_i e; cases e
    · rename_i n r e
      cases e
      obtain ⟨l', h', rfl⟩ := Option.map_eq_some_iff.1 h
      rw [toB8_eq h']; rfl
    · cases h
def rd8 (O : Mo) (v : AV) : Option (List Int) := match rdS O 1 v with
  | some (cs, _) => toB8 cs
  | none => none
theorem rd8_of {O : Mo} {v : AV} {l : List Int} (h : rd8 O v = some l) : rdS O 1 v = some (enc8 l, l.length) := by
  unfold rd8 at h
  split at h
  · rename_i cs n hs
    have e := toB8_eq h
    subst e
    have := rdS_len hs
    simp only [enc8, List.length_map] at this
    rw [hs]; simp [enc8]; omega
  · cases h
theorem ixok_of8 {O : Mo} {v : AV} {l : List Int} {i : Nat} (h : rd8 O v = some l) (hi : i < l.length) : ixok v i = true := by
  simp [ixok, rdS_lnS (rd8_of h), hi]
theorem s8_len {O : Mo} {v : AV} (S : Ms) (h : (rd8 O v).isSome = true) : lenA O S .slice v = some ((rd8 O v).getD []).length := by
  obtain ⟨l, hl⟩ := Option.isSome_iff_exists.1 h
  rw [rdS_lenA (rd8_of hl), hl]; rfl
theorem s8_ld {O : Mo} {v : AV} {i : Nat} (S : Ms) (h : (rd8 O v).isSome = true) : ald O S 1 false (adI v i) = (((rd8 O v).getD [])[i]?).map (AV.int .u8) := by
  obtain ⟨l, hl⟩ := Option.isSome_iff_exists.1 h
  rw [ad_ld (rd8_of hl), hl]; simp [enc8]
theorem eqb_TF (n : Bool) : eqbC n (.bool true) (.bool false) = some (.bool n) := by cases n <;> rfl
theorem eqb_FT (n : Bool) : eqbC n (.bool false) (.bool true) = some (.bool n) := by cases n <;> rfl
/-- Rules. -/
def RSm := And.intro @eqb_TF <| And.intro @eqb_FT <| And.intro @r_appX <| And.intro @chkC_beq <| And.intro @r_mkm <| And.intro @r_mup <| And.intro @r_lkp <| And.intro @mup_I <| And.intro @lkp_I <| And.intro @lkV_s <| And.intro @lkV_n <| And.intro @s8_len <| @s8_ld
end Den

/- Rules for TicketRaces: closures, elements that are addresses, maps from integers to truth values. -/
set_option maxRecDepth 100000
set_option linter.unusedSectionVars false
set_option linter.unusedSimpArgs false
set_option linter.unusedVariables false
set_option linter.defProp false
namespace Den
open Go
section
variable {cfg : Cfg} {call : FuncId → List AV → List ABlk → List (List ABlk) → Ans} {dst : Option Nat} {l : List AOp}
def calldC (cfg : Cfg) (call : FuncId → List AV → List ABlk → List (List ABlk) → Ans) (x : AV) (vs : List AV) (dst : Option Nat) (l : List AOp) (st : St) : Option St :=
  match x with
  | .func f caps => putM cfg call (call f (vs ++ caps) st.O st.S) dst l st
  | _ => none
theorem r_calld (st : St) (x : Opd) (args : List Opd) : execOps cfg call (⟨dst, none, .calld x args, []⟩ :: l) st = calldC cfg call (ev st.env x) (args.map (ev st.env)) dst l st := by
  simp only [execOps, wanted, opx, AO.isCall, if_true, callee, calldC]
  cases ev st.env x <;> (try rfl)
  rename_i f caps
  simp only []
  cases call f (args.map (ev st.env) ++ caps) st.O st.S with
  | none => rfl
  | some v => obtain ⟨v, O, S⟩ := v; simp [putM, chks]
theorem calldC_f (f : FuncId) (caps vs : List AV) (st : St) : calldC cfg call (.func f caps) vs dst l st = putM cfg call (call f (vs ++ caps) st.O st.S) dst l st := rfl
theorem r_mkf (st : St) (f : FuncId) (caps : List Opd) : execOps cfg call (⟨dst, none, .mkf f caps, []⟩ :: l) st = putC cfg call (some (.func f (caps.map (ev st.env)))) dst l st := r_op _ st _ rfl rfl
end
theorem stOB_ref {k' o : Nat} {s off tot : Nat} {cs : List AV} {O : Mo} {S : Ms} {k : Nat} (h2 : off < cs.length) (h4 : cs.length = tot) : stOB (some (.buf s cs)) 1 off tot (.ref 0 k' o) O S k = some (O.set k (.buf s (cs.set off (.ref 0 k' o))), S) := stOB_one rfl h2 rfl h4
theorem stOB_nilp {s off tot : Nat} {cs : List AV} {O : Mo} {S : Ms} {k : Nat} (h2 : off < cs.length) (h4 : cs.length = tot) : stOB (some (.buf s cs)) 1 off tot .nilp O S k = some (O.set k (.buf s (cs.set off .nilp)), S) := stOB_one rfl h2 rfl h4
theorem go_map (O : Mo) (S : Ms) (k off : Nat) (cs : List AV) (d i : Nat) : stO (some (.arr cs)) 1 off (.map d i) O S k = gA (decide (off < cs.length) && AV.low 1 (.map d i)) (some (O.set k (.arr (cs.set off (.map d i))), S)) := go_one _ _ _ _ _ _ rfl
theorem low_map' (lim d k : Nat) : AV.low lim (.map d k) = decide (d < lim) := rfl

/-! Sets of numbers, as maps to true -/
def encB (l : List Int) : List (AV × AV) := l.map fun x => (.int .u64 x, .bool true)
def toB : List (AV × AV) → Option (List Int)
  | [] => some []
  | (.int .u64 a, .bool true) :: r => (toB r).map (a :: ·)
  | _ :: _ => none
theorem toB_eq : ∀ {es : List (AV × AV)} {l : List Int}, toB es = some l → es = encB l
  | [], l, h => by cases h; rfl
  | c :: cs, l, h => by
    unfold toB at h
    split at h
    · rename_i e; cases e
    · rename_i a r e
      cases e
      obtain ⟨l', h', rfl⟩ := Option.map_eq_some_iff.1 h
      rw [toB_eq h']; rfl
    · cases h
def hasB (x : Int) : List Int → Bool
  | [] => false
  | a :: l => if x = a then true else hasB x l
def putB (x : Int) : List Int → List Int
  | [] => [x]
  | a :: l => if x = a then x :: l else a :: putB x l
theorem findE_B (x : Int) : ∀ l, findE .int (.int .u64 x) (encB l) = some (cond (hasB x l) (some (.bool true)) none)
  | [] => rfl
  | a :: l => by
    show (match eqCell .int (.int .u64 x) (.int .u64 a) with | some true => _ | some false => _ | none => _) = _
    simp only [eqCell, if_true, hasB]
    by_cases h : x = a
    · subst h; simp
    · have : (x == a) = false := by simpa using h
      rw [this]
      simp only [if_neg h]
      exact findE_B x l
theorem putE_B (x : Int) : ∀ l, putE .int (.int .u64 x) (.bool true) (encB l) = encB (putB x l)
  | [] => rfl
  | a :: l => by
    show (match eqCell .int (.int .u64 x) (.int .u64 a) with | some true => _ | _ => _) = _
    simp only [eqCell, if_true, putB]
    by_cases h : x = a
    · subst h; simp [encB]
    · rw [if_neg h]
      have : (x == a) = false := by simpa using h
      rw [this]
      show _ :: putE .int (.int .u64 x) (.bool true) (encB l) = _
      rw [putE_B x l]; rfl
def mapB (O : Mo) (i : Nat) : Option (List Int) := match O[i]? with
  | some (.map es) => toB es
  | _ => none
theorem mapB_of {O : Mo} {i : Nat} {l : List Int} (h : mapB O i = some l) : O[i]? = some (.map (encB l)) := by
  unfold mapB at h
  split at h
  · rename_i es e; rw [e, toB_eq h]
  · cases h
theorem mup_B {O : Mo} {i : Nat} (S : Ms) (x : Int) (h : (mapB O i).isSome = true) : mupC .int (.map 0 i) (.int .u64 x) (.bool true) O S = some (.undef, O.set i (.map (encB (putB x ((mapB O i).getD [])))), S) := by
  obtain ⟨l, hl⟩ := Option.isSome_iff_exists.1 h
  have := mapB_of hl
  simp [mupC, gm_0, this, hl, findE_B, putE_B, AV.one, AV.low, smO, smS]
theorem lkp_B {O : Mo} {i : Nat} (S : Ms) (x : Int) (h : (mapB O i).isSome = true) : lkpC .int (.bool false) false (.map 0 i) (.int .u64 x) O S = some (.bool (hasB x ((mapB O i).getD []))) := by
  obtain ⟨l, hl⟩ := Option.isSome_iff_exists.1 h
  have := mapB_of hl
  simp only [lkpC, gm_0, this, hl, findE_B, Option.getD_some]
  cases hasB x l <;> rfl
theorem len_B {O : Mo} {i : Nat} (S : Ms) (h : (mapB O i).isSome = true) : lenA O S .map (.map 0 i) = some ((mapB O i).getD []).length := by
  obtain ⟨l, hl⟩ := Option.isSome_iff_exists.1 h
  have := mapB_of hl
  simp [lenA, gm_0, this, hl, encB]
theorem box_intO (k : IntKind) (a : Int) (O : Mo) (S : Ms) : boxC 1 true (.int k a) O S = some (.ref 0 O.length 0, O ++ [.arr [.int k a]], S) := by
  simp [boxC, AV.okv, AV.cells, AV.low, newD, newK, newO, newS]
theorem enter8 (nt : Nat) (rs : List RV) (bd : AC) (a b c d e f g i : AV) (O : Mo) (S : Ms) (h : 8 ≤ nt) : enter ⟨nt, rs, bd⟩ [a, b, c, d, e, f, g, i] O S = ⟨leOf nt (upd (upd (upd (upd (upd (upd (upd (upd env0 0 a) 1 b) 2 c) 3 d) 4 e) 5 f) 6 g) 7 i), O, S ++ [[]]⟩ := by
  rw [enter_eq _ _ _ _ (by simpa using h)]; congr 2; funext j
  match j with | 0 | 1 | 2 | 3 | 4 | 5 | 6 | 7 => rfl | j + 8 => simp [envOf, upd, env0]
theorem enter6 (nt : Nat) (rs : List RV) (bd : AC) (a b c d e f : AV) (O : Mo) (S : Ms) (h : 6 ≤ nt) : enter ⟨nt, rs, bd⟩ [a, b, c, d, e, f] O S = ⟨leOf nt (upd (upd (upd (upd (upd (upd env0 0 a) 1 b) 2 c) 3 d) 4 e) 5 f), O, S ++ [[]]⟩ := by
  rw [enter_eq _ _ _ _ (by simpa using h)]; congr 2; funext j
  match j with | 0 | 1 | 2 | 3 | 4 | 5 => rfl | j + 6 => simp [envOf, upd, env0]
/-! Slices of uint64 that are only read -/
def toW : List AV → Option (List Int)
  | [] => some []
  | .int .u64 n :: r => (toW r).map (n :: ·)
  | _ :: _ => none
def encW (l : List Int) : List AV := l.map (AV.int .u64)
theorem toW_enc : ∀ l : List Int, toW (encW l) = some l
  | [] => rfl
  | x :: l => by
    show (toW (encW l)).map (x :: ·) = _
    rw [toW_enc l]; rfl
theorem toW_eq : ∀ {cs : List AV} {l : List Int}, toW cs = some l → cs = encW l
  | [], l, h => by cases h; rfl
  | c :: cs, l, h => by
    unfold toW at h
    split at h
    · rename_i e; cases e
    · rename_i n r e
      cases e
      obtain ⟨l', h', rfl⟩ := Option.map_eq_some_iff.1 h
      rw [toW_eq h']; rfl
    · cases h
def rdW (O : Mo) (v : AV) : Option (List Int) := match rdS O 1 v with
  | some (cs, _) => toW cs
  | none => none
theorem rdW_of {O : Mo} {v : AV} {l : List Int} (h : rdW O v = some l) : rdS O 1 v = some (encW l, l.length) := by
  unfold rdW at h
  split at h
  · rename_i cs n hs
    have e := toW_eq h
    subst e
    have := rdS_len hs
    simp only [encW, List.length_map] at this
    rw [hs]; simp [encW]; omega
  · cases h
theorem rdW_mk {O : Mo} {v : AV} {l : List Int} {n : Nat} (h : rdS O 1 v = some (encW l, n)) : rdW O v = some l := by
  simp only [rdW, h, toW_enc]
theorem ixok_ofW {O : Mo} {v : AV} {l : List Int} {i : Nat} (h : rdW O v = some l) (hi : i < l.length) : ixok v i = true := by
  simp [ixok, rdS_lnS (rdW_of h), hi]
theorem slOk_ofW {O : Mo} {v : AV} {l : List Int} (h : rdW O v = some l) : slOk v := ⟨_, _, _, rdW_of h⟩
theorem sw_len {O : Mo} {v : AV} (S : Ms) (h : (rdW O v).isSome = true) : lenA O S .slice v = some ((rdW O v).getD []).length := by
  obtain ⟨l, hl⟩ := Option.isSome_iff_exists.1 h
  rw [rdS_lenA (rdW_of hl), hl]; rfl
theorem sw_ld {O : Mo} {v : AV} {i : Nat} (S : Ms) (h : (rdW O v).isSome = true) : ald O S 1 false (adI v i) = (((rdW O v).getD [])[i]?).map (AV.int .u64) := by
  obtain ⟨l, hl⟩ := Option.isSome_iff_exists.1 h
  rw [ad_ld (rdW_of hl), hl]; simp [encW]
theorem rdW_bref {O : Mo} {k n : Nat} {l : List Int} (hk : O[k]? = some (.buf 1 (encW l))) (hl : l.length = n) : rdW O (.bref 0 k 0 n n) = some l := by
  subst hl
  refine rdW_mk (n := l.length) ?_
  have hl : (encW l).length = l.length := by simp [encW]
  simp only [rdS, hk, hl]
  rw [if_pos ⟨trivial, by omega⟩, List.drop_zero, List.take_of_length_le (by omega)]
/-- Rules. -/
def RSx := And.intro @sw_len <| And.intro @sw_ld <| And.intro @box_intO <| And.intro @enter8 <| And.intro @enter6 <| And.intro @r_calld <| And.intro @calldC_f <| And.intro @r_mkf <| And.intro @stOB_ref <| And.intro @stOB_nilp <| And.intro @go_map <| And.intro @low_map' <| And.intro @mup_B <| And.intro @lkp_B <| @len_B
end Den
