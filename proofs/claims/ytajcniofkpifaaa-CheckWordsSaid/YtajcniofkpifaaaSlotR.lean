/- slot.list, quicker: what is taken as the bits of a number. -/
import Derived.Test.YtajcniofkpifaaaSlot2
import Derived.Test.YtajcniofkpifaaaUnpS
import Derived.Test.YtajcniofkpifaaaDenTop2
set_option maxRecDepth 100000
set_option maxHeartbeats 1000000
set_option linter.unusedSimpArgs false
set_option linter.unusedVariables false
namespace Den
open Go Go.Proofs

def mskQ (a n : Nat) : Nat := (2 ^ n - 1) <<< a
theorem mskQ_bit (a n w : Nat) : (mskQ a n).testBit w = (decide (a ≤ w) && decide (w < a + n)) := by
  unfold mskQ
  rw [Nat.testBit_shiftLeft, Nat.testBit_two_pow_sub_one]
  by_cases h : a ≤ w
  · simp [h]; omega
  · simp [h]
def listQC (i a en : Int) (mk : Nat) (cs : List AV) (n : Nat) (ks vs : List UInt8) (K : Int → Nat → List AV → Nat → Mo → Option (AV × Mo)) (O : Mo) : Option (AV × Mo) :=
  if mk &&& mskQ a.toNat (en.toNat - a.toNat) = 0 then K (i + 1) (mk ||| mskQ a.toNat (en.toNat - a.toNat)) (cs ++ [.str ks, .str vs]) (n + 1) O
  else some (.tup [.nils, .bool false], O)
def listQB (W : List Int) (i a mid en : Int) (mk : Nat) (cs : List AV) (n : Nat) (ks vs : List UInt8) (K : Int → Nat → List AV → Nat → Mo → Option (AV × Mo)) (O : Mo) : Option (AV × Mo) :=
  (match W[8]? with
  | some (k8) => (
  (if 0 ≤ k8 ∧ k8 < 18446744073709551616 then (
  if 1 < k8 then (
    (if 0 ≤ mid ∧ mid ≤ 127 then (
    (match W[mid.toNat]? with
    | some (c) => (
    (if 0 ≤ c ∧ c < 18446744073709551616 then (
    if c < 1 then some (.tup [.nils, .bool false], O)
    else if 511 < c then some (.tup [.nils, .bool false], O)
    else listQC i a en mk cs n ks vs K O)
    else none))
    | _ => none))
    else none)
  )
  else listQC i a en mk cs n ks vs K O)
  else none))
  | _ => none)
def listQA (W : List Int) (i : Int) (mk : Nat) (cs : List AV) (n : Nat) (K : Int → Nat → List AV → Nat → Mo → Option (AV × Mo)) (O : Mo) : Option (AV × Mo) :=
  (match W[(20 + i).toNat]? with
  | some (w) => (
  (if 0 ≤ w ∧ w < 18446744073709551616 then (
  (if 0 ≤ i ∧ i ≤ 107 then (
  (match entryS [.int .u64 w] O with
  | some (.agg [.int .i64 a, .int .i64 mid, .int .i64 en, .int .i64 ky, .int .i64 va], O1) => (
  (match textS W [.agg [.int .i64 a, .int .i64 mid, .int .i64 en, .int .i64 ky, .int .i64 va]] O1 with
  | some (.tup [.agg [.str ks, .str vs], .int .i64 e], O2) => (
  (if 0 ≤ a ∧ a ≤ en ∧ en ≤ 128 ∧ n ≤ 1000 then (
  if e = 0 then listQB W i a mid en mk cs n ks vs K O2
  else some (.tup [.nils, .bool false], O2))
  else none))
  | _ => none))
  | _ => none))
  else none))
  else none))
  | _ => none)
def listQ (W : List Int) (cn : Int) : Nat → Int → Nat → List AV → Nat → Mo → Option (AV × Mo)
  | 0, i, mk, cs, n, O => none
  | m + 1, i, mk, cs, n, O => (
    (if 0 ≤ i ∧ i ≤ 1000 then (
    if i < cn then
      match sizedS W [.int .i64 i] O with
      | some (.bool false, Oa) => some (.tup [.nils, .bool false], Oa)
      | some (.bool true, Oa) => listQA W i mk cs n (fun i mk cs n O => listQ W cn m i mk cs n O) Oa
      | _ => none
    else some (.tup [bif Nat.beq n 0 then .nils else .isl cs n, .bool true], O))
    else none)
  )
/-- The taken words. -/
structure TkQ (tk : List AV) (mk : Nat) : Prop where
  len : tk.length = 128
  get : ∀ w, w < 128 → tk[w]? = some (.bool (mk.testBit w))
/-- The pairs so far. -/
def LpQ (lp : LP) (jk : List ABlk) (cs : List AV) (n : Nat) : Prop :=
  match lp with
  | none => cs = [] ∧ n = 0
  | some (q, k) => k = n ∧ 1 ≤ n ∧ jk[q]? = some (.buf 2 cs) ∧ cs.length = 2 * n ∧ cs.all isStr = true
theorem listI_ok {W : List Int} {cn i a mid en ky va : Int} {ks vs : List UInt8} {lp : LP} {jk : List ABlk} {K : Int → LP → List AV → List ABlk → Mo → Option (AV × Mo)} {O : Mo} {mk : Nat} (h0 : 0 ≤ a) (h1 : en ≤ 128) :
    ∀ (m : Nat) (w : Nat) (tk : List AV), a ≤ w → (w : Int) ≤ en → en < (w : Int) + m → TkQ tk (mk ||| mskQ a.toNat (w - a.toNat)) → (∀ j, a.toNat ≤ j → j < w → mk.testBit j = false) →
    (mk &&& mskQ a.toNat (en.toNat - a.toNat) = 0 → ∃ tk', TkQ tk' (mk ||| mskQ a.toNat (en.toNat - a.toNat)) ∧ listI W cn i a mid en ky va ks vs lp jk K m w tk O = (match growPF lp (jk ++ [ABlk.arr [.int .i64 a, .int .i64 mid, .int .i64 en, .int .i64 ky, .int .i64 va]] ++ [ABlk.arr [.str ks, .str vs]]) ks vs with | some (lp2, jk2) => K (i + 1) lp2 tk' jk2 O | none => none)) ∧
    (mk &&& mskQ a.toNat (en.toNat - a.toNat) ≠ 0 → listI W cn i a mid en ky va ks vs lp jk K m w tk O = some (.tup [.nils, .bool false], O)) := by
  intro m
  induction m with
  | zero => intro w tk g0 g1 g2; omega
  | succ m ih =>
    intro w tk g0 g1 g2 T hf
    have c0 : (0 : Int) ≤ w := by omega
    have tw : ((w : Int)).toNat = w := by omega
    by_cases hw : (w : Int) < en
    · have hg := T.get w (by omega)
      rw [Nat.testBit_or, mskQ_bit] at hg
      have hz : decide (w < a.toNat + (w - a.toNat)) = false := by simp; omega
      rw [hz, Bool.and_false, Bool.or_false] at hg
      cases hb : mk.testBit w with
      | true =>
        rw [hb] at hg
        refine ⟨fun hd => ?_, fun _ => ?_⟩
        · exfalso
          have : (mk &&& mskQ a.toNat (en.toNat - a.toNat)).testBit w = true := by
            rw [Nat.testBit_and, hb, mskQ_bit]; simp; omega
          rw [hd] at this; simp at this
        · rw [listI]
          simp only [if_pos c0, if_pos T.len, if_pos hw, tw, hg]
      | false =>
        rw [hb] at hg
        have T2 : TkQ (tk.set w (.bool true)) (mk ||| mskQ a.toNat (w + 1 - a.toNat)) :=
          ⟨by rw [List.length_set]; exact T.len, fun j hj => by
            by_cases e : j = w
            · subst e
              rw [List.getElem?_set_self (by rw [T.len]; exact hj), Nat.testBit_or, mskQ_bit]
              have : (decide (a.toNat ≤ j) && decide (j < a.toNat + (j + 1 - a.toNat))) = true := by simp; omega
              rw [this, Bool.or_true]
            · rw [List.getElem?_set_ne (Ne.symm e), T.get j hj, Nat.testBit_or, Nat.testBit_or, mskQ_bit, mskQ_bit]
              have : (decide (a.toNat ≤ j) && decide (j < a.toNat + (w - a.toNat))) = (decide (a.toNat ≤ j) && decide (j < a.toNat + (w + 1 - a.toNat))) := by
                by_cases c : a.toNat ≤ j
                · simp [c]; omega
                · simp [c]
              rw [this]⟩
        have e : listI W cn i a mid en ky va ks vs lp jk K (m + 1) w tk O = listI W cn i a mid en ky va ks vs lp jk K m ((w + 1 : Nat) : Int) (tk.set w (.bool true)) O := by
          rw [listI]
          simp only [if_pos c0, if_pos T.len, if_pos hw, tw, hg]
          rw [show ((w : Int)) + 1 = ((w + 1 : Nat) : Int) by omega]
        rw [e]
        exact ih (w + 1) _ (by omega) (by omega) (by omega) T2 (fun j j0 j1 => by
          by_cases e : j = w
          · subst e; exact hb
          · exact hf j j0 (by omega))
    · have he : (w : Int) = en := by omega
      have hwe : en.toNat = w := by omega
      refine ⟨fun _ => ⟨tk, by rw [hwe]; exact T, ?_⟩, fun hd => ?_⟩
      · rw [listI]
        simp only [if_pos c0, if_pos T.len, if_neg hw]
        generalize growPF lp _ ks vs = o
        cases o with
        | none => rfl
        | some p => rfl
      · exfalso
        apply hd
        apply Nat.eq_of_testBit_eq
        intro j
        rw [Nat.testBit_and, mskQ_bit, Nat.zero_testBit]
        by_cases c : a.toNat ≤ j ∧ j < w
        · rw [hf j c.1 c.2]; rfl
        · have : (decide (a.toNat ≤ j) && decide (j < a.toNat + (en.toNat - a.toNat))) = false := by
            by_cases c1 : a.toNat ≤ j
            · simp [c1]; omega
            · simp [c1]
          rw [this, Bool.and_false]
theorem growQ {lp : LP} {jk : List ABlk} {cs : List AV} {n : Nat} {x y : ABlk} {ks vs : List UInt8} (h : LpQ lp jk cs n) (hn : n ≤ 1000) :
    ∃ lp2 jk2, growPF lp (jk ++ [x] ++ [y]) ks vs = some (lp2, jk2) ∧ LpQ lp2 jk2 (cs ++ [.str ks, .str vs]) (n + 1) := by
  cases lp with
  | none =>
    obtain ⟨rfl, rfl⟩ := h
    exact ⟨_, _, rfl, rfl, by omega, by simp, rfl, rfl⟩
  | some p =>
    obtain ⟨q, k⟩ := p
    obtain ⟨rfl, h1, h2, h3, h4⟩ := h
    have hq := (List.getElem?_eq_some_iff.1 h2).1
    have hg : (jk ++ [x] ++ [y])[q]? = some (.buf 2 cs) := by
      rw [List.append_assoc, List.getElem?_append_left hq]; exact h2
    refine ⟨some (q, k + 1), (jk ++ [x] ++ [y]).set q (.buf 2 (cs ++ [.str ks, .str vs])), ?_, rfl, by omega, ?_, by simp; omega, by simp [h4, isStr]⟩
    · simp only [growPF, hg, if_pos (show cs.length = 2 * k ∧ k ≤ 1000 from ⟨h3, hn⟩)]
    · rw [List.getElem?_set_self (by simp; omega)]
section
variable {W : List Int} {cn i : Int} {mk n : Nat} {cs : List AV} {O : Mo} {res : AV × Mo} {K : Int → Nat → List AV → Nat → Mo → Option (AV × Mo)} {K' : Int → LP → List AV → List ABlk → Mo → Option (AV × Mo)} {lp : LP} {tk : List AV} {jk : List ABlk}
theorem listQC_ok (hK : ∀ i mk cs n O res, K i mk cs n O = some res → ∀ lp tk jk, TkQ tk mk → LpQ lp jk cs n → K' i lp tk jk O = some res) (T : TkQ tk mk) (L : LpQ lp jk cs n) {a mid en ky va : Int} {ks vs : List UInt8} (hc : 0 ≤ a ∧ a ≤ en ∧ en ≤ 128 ∧ n ≤ 1000) (hh : listQC i a en mk cs n ks vs K O = some res) :
    listI W cn i a mid en ky va ks vs lp jk K' 200 a tk O = some res := by
  unfold listQC at hh
  have hT : TkQ tk (mk ||| mskQ a.toNat (a.toNat - a.toNat)) := by
    have : mskQ a.toNat (a.toNat - a.toNat) = 0 := by rw [Nat.sub_self]; simp [mskQ]
    rw [this, Nat.or_zero]; exact T
  obtain ⟨l1, l2⟩ := listI_ok (W := W) (cn := cn) (i := i) (mid := mid) (ky := ky) (va := va) (ks := ks) (vs := vs) (lp := lp) (jk := jk) (K := K') (O := O) (mk := mk) hc.1 hc.2.2.1 200 a.toNat tk (by omega) (by omega) (by omega) hT (fun j j0 j1 => by omega)
  rw [show ((a.toNat : Nat) : Int) = a by omega] at l1 l2
  by_cases hd : mk &&& mskQ a.toNat (en.toNat - a.toNat) = 0
  · rw [if_pos hd] at hh
    obtain ⟨tk', T', e⟩ := l1 hd
    obtain ⟨lp2, jk2, e2, L2⟩ := growQ (x := ABlk.arr [.int .i64 a, .int .i64 mid, .int .i64 en, .int .i64 ky, .int .i64 va]) (y := ABlk.arr [.str ks, .str vs]) (ks := ks) (vs := vs) L hc.2.2.2
    rw [e, e2]
    exact hK _ _ _ _ _ _ hh lp2 tk' jk2 T' L2
  · rw [if_neg hd] at hh
    rw [l2 hd]; exact hh
theorem listQB_ok (hK : ∀ i mk cs n O res, K i mk cs n O = some res → ∀ lp tk jk, TkQ tk mk → LpQ lp jk cs n → K' i lp tk jk O = some res) (T : TkQ tk mk) (L : LpQ lp jk cs n) {a mid en ky va : Int} {ks vs : List UInt8} (hc : 0 ≤ a ∧ a ≤ en ∧ en ≤ 128 ∧ n ≤ 1000) (h : listQB W i a mid en mk cs n ks vs K O = some res) :
    listB W cn i a mid en ky va ks vs lp tk jk K' O = some res := by
  unfold listQB at h
  unfold listB
  cases h8 : W[8]? with
  | none => rw [h8] at h; cases h
  | some k8 =>
    rw [h8] at h
    simp only [] at h ⊢
    split at h
    · rename_i c7
      rw [if_pos c7]
      split at h
      · rename_i c8
        rw [if_pos c8]
        split at h
        · rename_i c9
          rw [if_pos c9]
          cases hcc : W[mid.toNat]? with
          | none => rw [hcc] at h; cases h
          | some c =>
            rw [hcc] at h
            simp only [] at h ⊢
            split at h
            · rename_i c10
              rw [if_pos c10]
              by_cases d1 : c < 1
              · rw [if_pos d1] at h ⊢; exact h
              rw [if_neg d1] at h ⊢
              by_cases d2 : 511 < c
              · rw [if_pos d2] at h ⊢; exact h
              rw [if_neg d2] at h ⊢
              exact listQC_ok hK T L hc h
            · cases h
        · cases h
      · rename_i c8
        rw [if_neg c8]
        exact listQC_ok hK T L hc h
    · cases h
theorem listQA_ok (hK : ∀ i mk cs n O res, K i mk cs n O = some res → ∀ lp tk jk, TkQ tk mk → LpQ lp jk cs n → K' i lp tk jk O = some res) (T : TkQ tk mk) (L : LpQ lp jk cs n) (h : listQA W i mk cs n K O = some res) :
    listA W cn i lp tk jk K' O = some res := by
  unfold listQA at h
  unfold listA
  cases hw : W[(20 + i).toNat]? with
  | none => rw [hw] at h; cases h
  | some w =>
    rw [hw] at h
    simp only [] at h ⊢
    split at h
    · rename_i c3
      rw [if_pos c3]
      split at h
      · rename_i c4
        rw [if_pos c4]
        split at h
        · rename_i a mid en ky va O1 he
          rw [he]
          simp only []
          split at h
          · rename_i ks vs e O2 ht
            rw [ht]
            simp only []
            split at h
            · rename_i c5
              rw [if_pos c5.2.2.1]
              split at h
              · rename_i c6
                rw [if_pos c6]
                exact listQB_ok hK T L c5 h
              · rename_i c6; rw [if_neg c6]; exact h
            · cases h
          · cases h
        · cases h
      · cases h
    · cases h
end
theorem listQ_ok {W : List Int} {cn : Int} : ∀ (m : Nat) (i : Int) (mk : Nat) (cs : List AV) (n : Nat) (O : Mo) (res : AV × Mo), listQ W cn m i mk cs n O = some res →
    ∀ (lp : LP) (tk : List AV) (jk : List ABlk), TkQ tk mk → LpQ lp jk cs n → listG W cn m i lp tk jk O = some res := by
  intro m
  induction m with
  | zero => intro i mk cs n O res h; cases h
  | succ m ih =>
    intro i mk cs n O res h lp tk jk T L
    unfold listQ at h
    unfold listG
    split at h
    · rename_i c1
      rw [if_pos c1]
      split at h
      · rename_i c2
        rw [if_pos c2]
        split at h
        · rename_i hs; rw [hs]; exact h
        · rename_i Oa hs
          rw [hs]
          exact listQA_ok (fun i mk cs n O res h lp tk jk T L => ih i mk cs n O res h lp tk jk T L) T L h
        · cases h
      · rename_i c2
        rw [if_neg c2]
        cases lp with
        | none => obtain ⟨rfl, rfl⟩ := L; exact h
        | some p =>
          obtain ⟨q, k⟩ := p
          obtain ⟨rfl, h1, h2, h3, h4⟩ := L
          have hb : Nat.beq k 0 = false := by cases k with | zero => omega | succ k => rfl
          rw [hb] at h
          simp only [resP, h2, if_pos (show cs.length = 2 * k ∧ 1 ≤ k ∧ cs.all isStr = true from ⟨h3, h1, h4⟩)]
          exact h
    · cases h
def listR : SpG := fun W args O =>
  match args with
  | [] => (
    match headS W [] O with
    | some (.bool false, Oa) => some (.tup [.nils, .bool false], Oa)
    | some (.bool true, Oa) => (
      (match W[9]? with
      | some (k9) => (
      (if 0 ≤ k9 ∧ k9 ≤ 108 then (
      listQ W k9 110 0 0 [] 0 Oa)
      else none))
      | _ => none)
    )
    | _ => none
  )
  | _ => none
theorem listR_ok : PgOk Try.prog 46 listR := fun W rest O r O' h S d k hg => by
  refine listS_ok W rest O r O' ?_ S d k hg
  unfold listR at h
  unfold listS
  split at h
  · simp only []
    split at h
    · rename_i e; rw [e]; exact h
    · rename_i e
      rw [e]
      simp only []
      split at h
      · rename_i k9 h9
        rw [h9]
        simp only []
        split at h
        · rename_i c
          rw [if_pos c]
          exact listQ_ok _ _ _ _ _ _ _ h _ _ _ ⟨by simp, fun w hw => by rw [List.getElem?_replicate, if_pos hw]; simp⟩ ⟨rfl, rfl⟩
        · cases h
      · cases h
    · cases h
  · cases h
end Den

/- The program with slot.list and what reads words taken by what they answer. -/
set_option maxRecDepth 1000000
set_option maxHeartbeats 4000000
namespace Den
open Go Go.Proofs

noncomputable def primS (f : FuncId) : Option U.Prm := bif Nat.beq f 46 then some (pgE listR) else U.primK f
theorem primS_ok : ∀ f p, primS f = some p → ∀ args O S r O' S', p args O S = some (r, O', S') → CallOk Try.prog f args O S r O' S' := by
  intro f p h args O S r O' S' hp
  unfold primS at h
  cases h1 : Nat.beq f 46 with
  | true =>
    rw [h1] at h
    simp only [cond_true, Option.some.injEq] at h; subst h
    rw [Nat.eq_of_beq_eq_true h1]; exact pgE_ok listR_ok _ _ _ _ _ _ hp
  | false => rw [h1] at h; exact U.primK_ok f p h args O S r O' S' hp
noncomputable def cfgS : Cfg := { cfgA with code := tabL, prim := primS, own := fun f => Nat.beq f 49 }
theorem cfgS_ok : CfgOk Try.prog cfgS where
  mixed := cfgA_ok.mixed
  code f F h := cfgA_ok.code f F (tabL_ok f F h)
  prim f p h := primS_ok f p h
  meth t name f h := cfgA_ok.meth t name f h
theorem noFpS_ok : FpOk cfgS noFp := fun _ _ h => by cases h
end Den
