/- Rules for slices of objects that are only read, and for slices that grow from nothing, among the objects. -/
import Derived.Test.YtiecdchfnenldaaGreatDenG7
set_option linter.unusedSectionVars false
set_option linter.unusedVariables false
set_option linter.unusedSimpArgs false
set_option linter.defProp false
namespace Den
open Go

def refs (l : List Nat) : List AV := l.map (fun k => AV.ref 0 k 0)
theorem refs_len (l : List Nat) : (refs l).length = l.length := by simp [refs]
theorem refs_get (l : List Nat) (i : Nat) : (refs l)[i]? = l[i]?.map (fun k => AV.ref 0 k 0) := by simp [refs]
theorem refs_low (lim : Nat) (l : List Nat) : (refs l).all (AV.low (lim + 1)) = true := by
  simp only [refs, List.all_map, List.all_eq_true]; intro x _; simp [AV.low]
def toRefs : List AV → Option (List Nat)
  | [] => some []
  | .ref 0 k 0 :: r => (toRefs r).map (k :: ·)
  | _ :: _ => none
theorem toRefs_refs : ∀ l : List Nat, toRefs (refs l) = some l
  | [] => rfl
  | x :: l => by
    show (toRefs (refs l)).map (x :: ·) = _
    rw [toRefs_refs l]; rfl
theorem toRefs_eq : ∀ {cs : List AV} {l : List Nat}, toRefs cs = some l → cs = refs l
  | [], l, h => by cases h; rfl
  | c :: cs, l, h => by
    unfold toRefs at h
    split at h
    · rename_i e; cases e
    · rename_i k r e
      cases e
      obtain ⟨l', h', rfl⟩ := Option.map_eq_some_iff.1 h
      rw [toRefs_eq h']; rfl
    · cases h
def rdR (O : Mo) (v : AV) : Option (List Nat) := match rdS O 1 v with
  | some (cs, _) => toRefs cs
  | none => none
theorem rdR_of {O : Mo} {v : AV} {l : List Nat} (h : rdR O v = some l) : rdS O 1 v = some (refs l, l.length) := by
  unfold rdR at h
  split at h
  · rename_i cs n hs
    have e := toRefs_eq h
    subst e
    have := rdS_len hs
    rw [refs_len] at this
    rw [hs]; simp; omega
  · cases h
theorem rdR_mk {O : Mo} {v : AV} {l : List Nat} {n : Nat} (h : rdS O 1 v = some (refs l, n)) : rdR O v = some l := by
  simp only [rdR, h, toRefs_refs]
theorem ixok_ofR {O : Mo} {v : AV} {l : List Nat} {i : Nat} (h : rdR O v = some l) (hi : i < l.length) : ixok v i = true := by
  simp [ixok, rdS_lnS (rdR_of h), hi]
theorem sr_len {O : Mo} {v : AV} (S : Ms) (h : (rdR O v).isSome = true) : lenA O S .slice v = some ((rdR O v).getD []).length := by
  obtain ⟨l, hl⟩ := Option.isSome_iff_exists.1 h
  rw [rdS_lenA (rdR_of hl), hl]; rfl
theorem ad_ld {O : Mo} {v : AV} {cs : List AV} {n : Nat} (hs : rdS O 1 v = some (cs, n)) (S : Ms) (i : Nat) : ald O S 1 false (adI v i) = cs[i]? := by
  cases v <;> first | (cases hs; done) | skip
  · cases hs; rfl
  · cases hs; rfl
  · rename_i c len
    simp only [rdS] at hs
    split at hs
    · rename_i hc
      cases hs
      by_cases hi : i < n
      · simp [adI, ixaSl, hi, ald, takeV]
      · have hn : cs[i]? = none := List.getElem?_eq_none (by omega)
        simp [adI, ixaSl, hi, ald, hn]
    · cases hs
  · rename_i d k off len cap
    cases d with
    | succ d => cases hs
    | zero =>
      simp only [rdS] at hs
      split at hs
      · rename_i c hc
        split at hs
        · cases hs
          by_cases hi : i < n
          · simp [adI, ixaSl, hi, ald, takeV, gm, hc, List.getElem?_take]
          · simp [adI, ixaSl, hi, ald, List.getElem?_take]
        · cases hs
      · cases hs
  · rename_i d k off len tot
    cases d with
    | succ d => cases hs
    | zero =>
      simp only [rdS] at hs
      split at hs
      · rename_i c hc
        split at hs
        · rename_i ht
          cases hs
          by_cases hi : i < n
          · simp [adI, ixaSl, hi, ald, takeV, gm, hc, ht.1, List.getElem?_take]
          · simp [adI, ixaSl, hi, ald, List.getElem?_take]
        · cases hs
      · cases hs
theorem sr_ld {O : Mo} {v : AV} {i : Nat} (S : Ms) (h : (rdR O v).isSome = true) : ald O S 1 false (adI v i) = (((rdR O v).getD [])[i]?).map (fun k => AV.ref 0 k 0) := by
  obtain ⟨l, hl⟩ := Option.isSome_iff_exists.1 h
  rw [ad_ld (rdR_of hl), hl, refs_get]; rfl
theorem slOk_ofR {O : Mo} {v : AV} {l : List Nat} (h : rdR O v = some l) : slOk v := ⟨_, _, _, rdR_of h⟩

/-! Slices that grow -/
def growI (O : Mo) (v : AV) (m : List Int) : Option (AV × Mo) :=
  if m.length ≤ 1000 then match v with
    | .nils => some (.bref 0 O.length 0 m.length m.length, O ++ [.buf 1 (ints m)])
    | .bref 0 k 0 n tot => match bufI O k with
      | some l => if l.length = n ∧ tot = n ∧ n ≤ 100000 then some (.bref 0 k 0 (n + m.length) (n + m.length), O.set k (.buf 1 (ints (l ++ m)))) else none
      | none => none
    | _ => none
  else none
theorem gr_many {O : Mo} {v : AV} {m : List Int} (S : Ms) (h : (growI O v m).isSome = true) : appC 1 8 true v (some (ints m, m.length)) O S = some (((growI O v m).getD (.undef, [])).1, ((growI O v m).getD (.undef, [])).2, S) := by
  obtain ⟨p, hp⟩ := Option.isSome_iff_exists.1 h
  rw [hp]
  unfold growI at hp
  split at hp
  · rename_i hm
    split at hp
    · cases hp; exact appO_nil O S m (by omega)
    · rename_i k n tot
      split at hp
      · rename_i l hl
        split at hp
        · rename_i hc
          cases hp
          obtain ⟨h1, rfl, h3⟩ := hc
          have := appO_more (O := O) (k := k) (n := tot) S m true ⟨l, hl, h1⟩ (by omega)
          rw [hl] at this; exact this
        · cases hp
      · cases hp
    · cases hp
  · cases hp
theorem gr_one {O : Mo} {v : AV} {x : Int} (S : Ms) (h : (growI O v [x]).isSome = true) : appC 1 8 true v (some ([.int .i64 x], 1)) O S = some (((growI O v [x]).getD (.undef, [])).1, ((growI O v [x]).getD (.undef, [])).2, S) := gr_many S h
/-- A growing slice holds a list. -/
def GrI (O : Mo) (v : AV) (l : List Int) : Prop := (v = .nils ∧ l = []) ∨ ∃ k, v = .bref 0 k 0 l.length l.length ∧ O[k]? = some (.buf 1 (ints l))
def own : AV → List Nat
  | .bref 0 k _ _ _ => [k]
  | _ => []
theorem GrI.rd {O : Mo} {v : AV} {l : List Int} (h : GrI O v l) : rdI O v = some l := by
  rcases h with ⟨rfl, rfl⟩ | ⟨k, rfl, hk⟩
  · rfl
  · exact rdI_bref hk rfl
theorem GrI.ln {O : Mo} {v : AV} {l : List Int} (h : GrI O v l) : lnS v = some l.length := by
  rcases h with ⟨rfl, rfl⟩ | ⟨k, rfl, hk⟩ <;> rfl
theorem grow_ok {O : Mo} {v : AV} {l m : List Int} (h : GrI O v l) (hl : l.length ≤ 100000) (hm : m.length ≤ 1000) :
    ∃ v' O', growI O v m = some (v', O') ∧ GrI O' v' (l ++ m) ∧ O.length ≤ O'.length ∧ (∀ j, j < O.length → j ∉ own v → O'[j]? = O[j]?) ∧ (own v' = own v ∨ own v' = [O.length]) := by
  rcases h with ⟨rfl, rfl⟩ | ⟨k, rfl, hk⟩
  · refine ⟨.bref 0 O.length 0 m.length m.length, O ++ [.buf 1 (ints m)], by simp [growI, hm], Or.inr ⟨O.length, by simp, by simp⟩, by simp, fun j hj _ => List.getElem?_append_left hj, Or.inr rfl⟩
  · have hkl := (List.getElem?_eq_some_iff.1 hk).1
    refine ⟨.bref 0 k 0 (l.length + m.length) (l.length + m.length), O.set k (.buf 1 (ints (l ++ m))), by simp [growI, hm, bufI_mk hk, hl], Or.inr ⟨k, by simp, ?_⟩, by simp, fun j hj hn => ?_, Or.inl rfl⟩
    · rw [List.getElem?_set_self hkl]
    · simp only [own, List.mem_singleton] at hn
      rw [List.getElem?_set_ne (fun e => hn e.symm)]
def bufR (O : Mo) (k : Nat) : Option (List Nat) := match O[k]? with
  | some (.buf 1 cs) => toRefs cs
  | _ => none
def growR (O : Mo) (v : AV) (x : Nat) : Option (AV × Mo) :=
  match v with
    | .nils => some (.bref 0 O.length 0 1 1, O ++ [.buf 1 (refs [x])])
    | .bref 0 k 0 n tot => match bufR O k with
      | some l => if l.length = n ∧ tot = n ∧ n ≤ 100000 then some (.bref 0 k 0 (n + 1) (n + 1), O.set k (.buf 1 (refs (l ++ [x])))) else none
      | none => none
    | _ => none
theorem gr_ref {O : Mo} {v : AV} {x : Nat} (S : Ms) (h : (growR O v x).isSome = true) : appC 1 8 true v (some ([.ref 0 x 0], 1)) O S = some (((growR O v x).getD (.undef, [])).1, ((growR O v x).getD (.undef, [])).2, S) := by
  obtain ⟨p, hp⟩ := Option.isSome_iff_exists.1 h
  rw [hp]
  unfold growR at hp
  split at hp
  · cases hp
    simp [appC, appA, newD, newK, newO, newS, AV.low, refs]
  · rename_i k n tot
    split at hp
    · rename_i l hl
      split at hp
      · rename_i hc
        cases hp
        obtain ⟨h1, rfl, h3⟩ := hc
        have hk : O[k]? = some (.buf 1 (refs l)) := by
          unfold bufR at hl
          split at hl
          · rename_i cs e; rw [e, toRefs_eq hl]
          · cases hl
        subst h1
        have e0 : l.length * 1 = l.length ∧ (refs l).length = l.length ∧ (l.length + 1) * 8 * 2 ≤ 2 ^ 47 ∧ [AV.ref 0 x 0].all (AV.low (0 + 1)) = true := ⟨by omega, refs_len l, by omega, by simp [AV.low]⟩
        have e1 : smO O 0 k (.buf 1 (refs l ++ [.ref 0 x 0])) = O.set k (.buf 1 (refs (l ++ [x]))) := by simp [smO, refs]
        unfold appC appA
        simp only [gm_0, hk]
        rw [if_pos (show True ∧ True ∧ _ from ⟨trivial, trivial, e0⟩), e1]; rfl
      · cases hp
    · cases hp
  · cases hp
def GrR (O : Mo) (v : AV) (l : List Nat) : Prop := (v = .nils ∧ l = []) ∨ ∃ k, v = .bref 0 k 0 l.length l.length ∧ O[k]? = some (.buf 1 (refs l))
theorem rdR_bref {O : Mo} {k n : Nat} {l : List Nat} (hk : O[k]? = some (.buf 1 (refs l))) (hl : l.length = n) : rdR O (.bref 0 k 0 n n) = some l := by
  subst hl
  refine rdR_mk (n := l.length) ?_
  simp only [rdS, hk, refs_len]
  simp
  exact List.take_of_length_le (by rw [refs_len]; omega)
theorem GrR.rd {O : Mo} {v : AV} {l : List Nat} (h : GrR O v l) : rdR O v = some l := by
  rcases h with ⟨rfl, rfl⟩ | ⟨k, rfl, hk⟩
  · rfl
  · exact rdR_bref hk rfl
theorem growR_ok {O : Mo} {v : AV} {l : List Nat} {x : Nat} (h : GrR O v l) (hl : l.length ≤ 100000) :
    ∃ v' O', growR O v x = some (v', O') ∧ GrR O' v' (l ++ [x]) ∧ O.length ≤ O'.length ∧ (∀ j, j < O.length → j ∉ own v → O'[j]? = O[j]?) ∧ (own v' = own v ∨ own v' = [O.length]) := by
  rcases h with ⟨rfl, rfl⟩ | ⟨k, rfl, hk⟩
  · refine ⟨.bref 0 O.length 0 1 1, O ++ [.buf 1 (refs [x])], by simp [growR], Or.inr ⟨O.length, by simp, by simp⟩, by simp, fun j hj _ => List.getElem?_append_left hj, Or.inr rfl⟩
  · have hkl := (List.getElem?_eq_some_iff.1 hk).1
    have hb : bufR O k = some l := by simp only [bufR, hk, toRefs_refs]
    refine ⟨.bref 0 k 0 (l.length + 1) (l.length + 1), O.set k (.buf 1 (refs (l ++ [x]))), by simp [growR, hb, hl], Or.inr ⟨k, by simp, ?_⟩, by simp, fun j hj hn => ?_, Or.inl rfl⟩
    · rw [List.getElem?_set_self hkl]
    · simp only [own, List.mem_singleton] at hn
      rw [List.getElem?_set_ne (fun e => hn e.symm)]

/-! Literals among the objects -/
theorem bsl_intO (k : IntKind) (n : Int) (O : Mo) (S : Ms) : bslC 1 1 false true (some [.int k n]) O S = some (.isl [.int k n] 1, O, S) := rfl
theorem bsl_refO (x : Nat) (O : Mo) (S : Ms) : bslC 1 1 true true (some [.ref 0 x 0]) O S = some (.bref 0 O.length 0 1 1, O ++ [.buf 1 [.ref 0 x 0]], S) := by
  simp [bslC, newD, newK, newO, newS, AV.low]
theorem conts_last (v : AV) (O : Mo) (S : Ms) : conts (O ++ [.buf 1 [v]]) S 1 (.bref 0 O.length 0 1 1) = some ([v], 1) := by
  simp [conts, gm_0]

/-! Parts of slices -/
def slI (v : AV) (l h : Nat) : AV := (slVar (some (l, h)) v 1).getD .undef
def slBnd (b : Option (Nat × Nat)) (v : AV) : Option AV := match b with
  | some (l, h) => some (slI v l h)
  | none => none
def slLn (v : AV) : Bool := match v with
  | .isl .. | .sref .. | .bref .. | .nils => true
  | _ => false
abbrev slLnO (v : AV) : Prop := slLn v = true
theorem slLn_of {O : Mo} {v : AV} {l : List Int} (h : rdI O v = some l) (h2 : v ≠ .emp) : slLnO v := by
  have hs := rdI_of h
  show slLn v = true
  cases v <;> first | (cases hs; done) | rfl | exact absurd rfl h2
theorem sl_slc {v : AV} (le : List AV) (lo hi : Option Opd) (h : slLnO v) : slcA le lo hi 1 v = slBnd (bounds le lo hi ((lnS v).getD 0)) v := by
  cases v <;> first | (cases h; done) | skip
  · simp only [slcA, lnS, Option.getD_some]; cases bounds le lo hi 0 <;> rfl
  · rename_i cs len; simp only [slcA, lnS, Option.getD_some]; cases bounds le lo hi len <;> rfl
  · rename_i d k off len cap; simp only [slcA, lnS, Option.getD_some]; cases bounds le lo hi len <;> rfl
  · rename_i d k off len tot; simp only [slcA, lnS, Option.getD_some]; cases bounds le lo hi len <;> rfl
theorem sl_slcS (l h : Nat) (v : AV) : slBnd (some (l, h)) v = some (slI v l h) := rfl
def lenOk (O : Mo) (v : AV) (n : Nat) : Prop := ∃ l, rdI O v = some l ∧ n ≤ l.length
theorem lenOk_of {O : Mo} {v : AV} {l : List Int} {n : Nat} (h : rdI O v = some l) (hn : n ≤ l.length) : lenOk O v n := ⟨l, h, hn⟩
theorem rdS_slI {O : Mo} {v : AV} {cs : List AV} {n lo hi : Nat} (hs : rdS O 1 v = some (cs, n)) (h1 : lo ≤ hi) (h2 : hi ≤ n) (hne : v ≠ .emp) : rdS O 1 (slI v lo hi) = some ((cs.drop lo).take (hi - lo), hi - lo) := by
  cases v <;> first | (cases hs; done) | skip
  · cases hs; simp at h2; subst h2; simp at h1; subst h1; rfl
  · exact absurd rfl hne
  · rename_i c len
    simp only [rdS] at hs
    split at hs
    · rename_i hc; cases hs; simp [slI, slVar, rdS]; omega
    · cases hs
  · rename_i d k off len cap
    cases d with
    | succ d => cases hs
    | zero =>
      simp only [rdS] at hs
      split at hs
      · rename_i c hc
        split at hs
        · rename_i hl
          cases hs
          simp only [slI, slVar, Option.getD_some, rdS, hc]
          rw [if_pos (by omega)]
          simp only [Nat.mul_one, Option.some.injEq, Prod.mk.injEq, and_true]
          rw [← List.drop_drop, List.drop_take, List.take_take]
          congr 1; omega
        · cases hs
      · cases hs
  · rename_i d k off len tot
    cases d with
    | succ d => cases hs
    | zero =>
      simp only [rdS] at hs
      split at hs
      · rename_i c hc
        split at hs
        · rename_i hl
          cases hs
          simp only [slI, slVar, Option.getD_some, rdS, hc]
          rw [if_pos ⟨hl.1, by omega⟩]
          simp only [Nat.mul_one, Option.some.injEq, Prod.mk.injEq, and_true]
          rw [← List.drop_drop, List.drop_take, List.take_take]
          congr 1; omega
        · cases hs
      · cases hs
theorem ints_part (l : List Int) (a b : Nat) : ((ints l).drop a).take b = ints ((l.drop a).take b) := by simp [ints, List.map_take, List.map_drop]
theorem rdI_slI {O : Mo} {v : AV} {l : List Int} {lo hi : Nat} (h : rdI O v = some l) (h1 : lo ≤ hi) (h2 : hi ≤ l.length) (hne : v ≠ .emp) : rdI O (slI v lo hi) = some ((l.drop lo).take (hi - lo)) := by
  refine rdI_mk (n := hi - lo) ?_
  rw [rdS_slI (rdI_of h) h1 h2 hne, ints_part]
theorem sl_contsP {O : Mo} {v : AV} {lo hi : Nat} (S : Ms) (h0 : slLnO v) (h1 : lo ≤ hi) (h2 : lenOk O v hi) : conts O S 1 (slI v lo hi) = some (ints ((((rdI O v).getD []).drop lo).take (hi - lo)), ((((rdI O v).getD []).drop lo).take (hi - lo)).length) := by
  obtain ⟨l, hl, hn⟩ := h2
  have hne : v ≠ .emp := fun e => by subst e; cases h0
  rw [rdS_conts (rdI_of (rdI_slI hl h1 hn hne)), hl]; rfl
/-- Rules. -/
def RSr := And.intro @sr_len <| And.intro @sr_ld <| And.intro @gr_many <| And.intro @gr_one <| And.intro @gr_ref <| And.intro @bsl_intO <| And.intro @bsl_refO <| And.intro @conts_last <| And.intro @sl_slc <| And.intro @sl_slcS <| And.intro @sl_contsP <| And.intro @bounds_eq <| And.intro @bnd_some <| And.intro @bnd_none <| And.intro @bndC_P <| And.intro @s_nils <| @s_nilsS
end Den
