/- TicketDraws: what it computes. -/
import Derived.Test.YtiecdchfnenldaaGreatKnownS
import Derived.Test.YtiecdchfnenldaaGreatSpecs
import Derived.Test.YtiecdchfnenldaaGreatDenGR
import Derived.Test.YtiecdchfnenldaaGreatAbsS
import Derived.Test.YtiecdchfnenldaaGreatDenArgs
set_option maxRecDepth 100000
set_option maxHeartbeats 4000000
set_option linter.unusedSimpArgs false
set_option linter.unusedVariables false
namespace Den
open Go Go.Proofs

/-- ticketlinelaw32.draws -/
def drawsS : Sp := fun args O =>
  match args with
  | [.agg [.int .i64 p, .int .i64 t], .ref 0 km 0, .int .i64 th, .int .u64 want] =>
    match newDrawS [.agg [.int .i64 p, .int .i64 t], .int .i64 th] O with
    | some (.tup [.ref 0 kd 0, .int .i64 e], Oa) =>
      if e = 0 then
        match run32S [.iface 96 (.ref 0 kd 0), .ref 0 km 0, .int .i64 60] Oa with
        | some (.tup [.bool true, .bool false], Ob) =>
          match drawResS [.ref 0 kd 0] Ob with
          | some (.int .u64 v, Oc) => if v = want then some (.bool true, Oc) else none
          | _ => none
        | _ => none
      else none
    | _ => none
  | _ => none
/-- ticketlinelaw32.descendNodes -/
def dnS : Sp := fun args O =>
  match args with
  | [.agg [.int .i64 p, .int .i64 t]] =>
    match dNodesS [.agg [.int .i64 p, .int .i64 t]] O with
    | some (.tup [.ref 0 kn 0, .int .i64 e], Oa) =>
      if e = 0 then
        match nbaseS [.ref 0 kn 0] Oa with
        | some (.int .i64 b, Ob) => some (.int .i64 b, Ob)
        | _ => none
      else none
    | _ => none
  | _ => none
/-- ticketlinelaw32.TicketDraws: the loop 0 -/
def drawsIn (km kc : Nat) (p t nn i next : Int) (tv : AV) (K : Int → Int → Mo → Option (AV × Mo)) : Nat → Int → Mo → Option (AV × Mo)
  | 0, w, O => none
  | m + 1, w, O =>
    if w < nn then
      if 0 ≤ w then
        match loadS [.ref 0 kc 0, .int .i64 w] O with
        | some (.tup [.int .u64 a, .int .i64 e], Oa) =>
          match loadS [.ref 0 km 0, .int .i64 w] Oa with
          | some (.tup [.int .u64 b, .int .i64 f], Ob) =>
            if e = 0 then
              if f = 0 then
                if w - 7 = 0 then
                  if b = next then drawsIn km kc p t nn i next tv K m (w + 1) Ob else none
                else if a = b then drawsIn km kc p t nn i next tv K m (w + 1) Ob else none
              else none
            else none
          | _ => none
        | _ => none
      else none
    else K (i + 1) next O
attribute [local irreducible] drawsIn
/-- ticketlinelaw32.TicketDraws: the loop 1 -/
def drawsG (km : Nat) (p t : Int) (tv : AV) : Nat → Int → Int → Mo → Option (AV × Mo)
  | 0, i, next, O => none
  | m + 1, i, next, O =>
    match rdI O tv with
    | some l =>
      if l.length ≤ 20 then
        if i < (l.length : Int) then
          if 0 ≤ i then
            match l[i.toNat]? with
            | some th =>
              if th < 0 then
                match newDrawS [.agg [.int .i64 p, .int .i64 t], .int .i64 th] O with
                | some (.tup [.nilp, .int .i64 e], Oa) => if e = 2 then drawsG km p t tv m (i + 1) next Oa else none
                | _ => none
              else if t ≤ th then
                match newDrawS [.agg [.int .i64 p, .int .i64 t], .int .i64 th] O with
                | some (.tup [.nilp, .int .i64 e], Oa) => if e = 2 then drawsG km p t tv m (i + 1) next Oa else none
                | _ => none
              else
                match memCopyS [.ref 0 km 0] O with
                | some (.ref 0 kc 0, Oa) =>
                  if 0 ≤ next ∧ next ≤ 2305843009213693952 then
                    match rdI Oa tv with
                    | some l2 =>
                      if i < (l2.length : Int) then
                        match l2[i.toNat]? with
                        | some th2 =>
                          match drawsS [.agg [.int .i64 p, .int .i64 t], .ref 0 km 0, .int .i64 th2, .int .u64 (next + 1)] Oa with
                          | some (.bool true, Ob) =>
                            match dnS [.agg [.int .i64 p, .int .i64 t]] Ob with
                            | some (.int .i64 nn, Oc) => if nn ≤ 70000 then drawsIn km kc p t nn i (next + 1) tv (fun i next O => drawsG km p t tv m i next O) 70001 0 Oc else none
                            | _ => none
                          | _ => none
                        | _ => none
                      else none
                    | _ => none
                  else none
                | _ => none
            | _ => none
          else none
        else
          match known32S [] O with
          | some (.bool b, Oa) => some (.bool b, Oa)
          | _ => none
      else none
    | _ => none
/-- ticketlinelaw32.TicketDraws: the loop 1 -/
def drawsB (ee p t : Int) (tv : AV) : Nat → Int → Mo → Option (AV × Mo)
  | 0, i, O => none
  | m + 1, i, O =>
    match rdI O tv with
    | some l =>
      if l.length ≤ 20 then
        if i < (l.length : Int) then
          if 0 ≤ i then
            match l[i.toNat]? with
            | some th =>
              match newDrawS [.agg [.int .i64 p, .int .i64 t], .int .i64 th] O with
              | some (.tup [.nilp, .int .i64 e], Oa) => if e = 2 then drawsB ee p t tv m (i + 1) Oa else none
              | _ => none
            | _ => none
          else none
        else
          match known32S [] O with
          | some (.bool b, Oa) => some (.bool b, Oa)
          | _ => none
      else none
    | _ => none
attribute [local irreducible] drawsG drawsB
end Den

/- TicketDraws: the answer is yes. -/
set_option maxRecDepth 100000
set_option maxHeartbeats 1000000
set_option linter.unusedSimpArgs false
set_option linter.unusedVariables false
namespace Den
open Go Go.Proofs

theorem done_draw {O : Mo} {k ka kr kn : Nat} {b t th : Int} {p : DP} (h : Dn O k ka kr kn b t th p) (h0 : ¬ p.st = 0) : drawDoneS [.ref 0 k 0] O = some (.bool (decide (p.st = 5)), O) := by
  have hK := h.K
  unfold dwB dnow at hK
  split at hK
  · by_cases e : p.st = 5
    · simp [drawDoneS, hK, e]
    · simp [drawDoneS, hK, e, h0]
  · by_cases e : p.st = 5
    · simp [drawDoneS, hK, e]
    · simp [drawDoneS, hK, e, h0]
/-- A new program. -/
theorem newDraw_ok (O : Mo) (p t th : Int) (hp : 1 ≤ p ∧ p ≤ 511) (ht : 1 ≤ t ∧ t ≤ 17) (h1 : 0 ≤ th) (h2 : th < t) :
    ∃ O', newDrawS [.agg [.int .i64 p, .int .i64 t], .int .i64 th] O = some (.tup [.ref 0 (O.length + 3) 0, .int .i64 0], O') ∧ Ag O O' [] ∧ Dn O' (O.length + 3) (O.length + 1) (O.length + 2) O.length (16 + 128 * p) t th dp0 := by
  have N : NodesO (O ++ [.arr [.int .i64 (16 + 128 * p), .int .i64 t]]) O.length (16 + 128 * p) t := ⟨app_last _ _, by omega, by omega, by omega, by omega, by omega⟩
  have e2 := of_ok N h1 h2
  have e3 := acq_ok (lk := 5) (nd := th * 2) N (by omega) (by omega) (by omega) (by omega)
  have N2 := N.ag (Ag.app _ [subB O.length 5 (th * 2) 1 0 false] []) (by simp)
  have e4 := rel_ok (lk := 5) (nd := th * 2) N2 (by omega) (by omega) (by omega) (by omega)
  have N3 := N2.ag (Ag.app _ [subB O.length 5 (th * 2) 1 0 false] []) (by simp)
  have c1 : ¬ th < 0 := by omega
  have c2 : ¬ t ≤ th := by omega
  refine ⟨O ++ [ABlk.arr [.int .i64 (16 + 128 * p), .int .i64 t]] ++ [subB O.length 5 (th * 2) 1 0 false] ++ [subB O.length 5 (th * 2) 1 0 false] ++ [dwB 1 (O.length + 1) (O.length + 2) 0], ?_, (((Ag.app _ _ _).trans (Ag.app _ _ _)).trans (Ag.app _ _ _)).trans (Ag.app _ _ _), ?_⟩
  · simp only [newDrawS, dnodes_ok O p t hp ht, if_true, if_neg c1, if_neg c2, e2, e3, e4]
    simp [dwB, dnow, acqT, relT]
  · exact ⟨N3.ag (Ag.app _ _ []) (by simp), by simp [SubO, dp0], by simp [SubO, dp0], by simp [dp0], by omega, h1, h2⟩
end Den

/- The lock under many threads: its queue, in the words. -/
set_option maxRecDepth 100000
set_option maxHeartbeats 1000000
set_option linter.unusedSimpArgs false
set_option linter.unusedVariables false
namespace Den
open Go Go.Proofs

/-- How far a thread is with the lock. -/
inductive LS
  | out | a1 | a2 | a3 | a4 (o : Int) | a5 | own | r1 | r2 | r3 | r4 (o : Int)
def acqL (pc ot : Int) : LS := if pc = 1 then .a1 else if pc = 2 then .a2 else if pc = 3 then .a3 else if pc = 4 then .a4 ot else .a5
def relL (pc ot : Int) : LS := if pc = 1 then .r1 else if pc = 2 then .r2 else if pc = 3 then .r3 else .r4 ot
def nxL (b i : Int) : Nat := (b + i * 2 * 3).toNat
def wtL (b i : Int) : Nat := (b + i * 2 * 3 + 1).toNat
def tlv : List Int → Int
  | [] => 0
  | [i] => i * 2 + 1
  | _ :: j :: l => tlv (j :: l)
def hdOK (b : Int) (W : List Int) (i : Int) (l : List Int) : LS → Prop
  | .a5 => W[wtL b i]? = some 0
  | .own => True
  | .r1 => True
  | .r2 => True
  | .r3 => l ≠ []
  | .r4 o => o ≠ 0 ∧ W[nxL b i]? = some o
  | _ => False
def chL (b : Int) (W : List Int) (f : Int → LS) : List Int → Prop
  | [] => True
  | [x] => W[nxL b x]? = some 0
  | x :: y :: l => W[wtL b y]? = some 1 ∧ (f y = .a4 (x * 2 + 1) ∧ W[nxL b x]? = some 0 ∨ f y = .a5 ∧ W[nxL b x]? = some (y * 2 + 1)) ∧ chL b W f (y :: l)
def ouOK (b : Int) (W : List Int) (i : Int) : LS → Prop
  | .out => True
  | .a1 => True
  | .a2 => W[nxL b i]? = some 0
  | .a3 => W[nxL b i]? = some 0 ∧ W[wtL b i]? = some 1
  | _ => False
structure LI (b t lk : Int) (W : List Int) (q : List Int) (f : Int → LS) : Prop where
  b3 : 16 ≤ b
  k0 : 0 ≤ lk
  k1 : lk < 16
  len : b + t * 6 ≤ W.length
  nod : q.Nodup
  rng : ∀ i ∈ q, 0 ≤ i ∧ i < t
  tl : W[lk.toNat]? = some (tlv q)
  ou : ∀ i, 0 ≤ i → i < t → i ∉ q → ouOK b W i (f i)
  hd : ∀ i l, q = i :: l → hdOK b W i l (f i)
  ch : chL b W f q
def updL (f : Int → LS) (i : Int) (s : LS) : Int → LS := fun j => if j = i then s else f j
theorem updL_self (f : Int → LS) (i : Int) (s : LS) : updL f i s i = s := by simp [updL]
theorem updL_ne (f : Int → LS) {i j : Int} (s : LS) (h : j ≠ i) : updL f i s j = f j := by simp [updL, h]
theorem chL_cong {b : Int} {W W' : List Int} {f f' : Int → LS} : ∀ {q : List Int}, (∀ x ∈ q, W'[nxL b x]? = W[nxL b x]?) → (∀ y ∈ q.drop 1, W'[wtL b y]? = W[wtL b y]? ∧ f' y = f y) → chL b W f q → chL b W' f' q
  | [], _, _, _ => trivial
  | [x], h, _, g => by
    show W'[nxL b x]? = some 0
    rw [h x (by simp)]; exact g
  | x :: y :: l, h, k, g => by
    have ky := k y (by simp)
    refine ⟨by rw [ky.1]; exact g.1, ?_, chL_cong (fun z hz => h z (by simp at hz ⊢; right; exact hz)) (fun z hz => k z (by simp at hz ⊢; right; exact hz)) g.2.2⟩
    rw [ky.2, h x (by simp)]
    exact g.2.1
theorem tlv_app (q : List Int) (i : Int) : tlv (q ++ [i]) = i * 2 + 1 := by
  induction q with
  | nil => rfl
  | cons a l ih =>
    cases l with
    | nil => rfl
    | cons c l => exact ih
theorem tlv_mem {q : List Int} (h : q ≠ []) : ∃ x ∈ q, tlv q = x * 2 + 1 := by
  induction q with
  | nil => exact absurd rfl h
  | cons a l ih =>
    cases l with
    | nil => exact ⟨a, by simp, rfl⟩
    | cons c l =>
      obtain ⟨x, hx, e⟩ := ih (by simp)
      exact ⟨x, by simp at hx ⊢; right; exact hx, e⟩
/-- One more behind the last. -/
theorem chL_app {b : Int} {W W' : List Int} {f f' : Int → LS} {i : Int} (hn : W'[nxL b i]? = some 0) (hw : W'[wtL b i]? = some 1) : ∀ {q : List Int}, q ≠ [] → (∀ x ∈ q, W'[nxL b x]? = W[nxL b x]?) → (∀ y ∈ q.drop 1, W'[wtL b y]? = W[wtL b y]? ∧ f' y = f y) → f' i = .a4 (tlv q) → chL b W f q → chL b W' f' (q ++ [i])
  | [], h, _, _, _, _ => absurd rfl h
  | [x], _, h, _, e, g => ⟨hw, Or.inl ⟨e, by rw [h x (by simp)]; exact g⟩, hn⟩
  | x :: y :: l, _, h, k, e, g => by
    have ky := k y (by simp)
    refine ⟨by rw [ky.1]; exact g.1, ?_, chL_app hn hw (q := y :: l) (by simp) (fun z hz => h z (by simp at hz ⊢; right; exact hz)) (fun z hz => k z (by simp at hz ⊢; right; exact hz)) e g.2.2⟩
    rw [ky.2, h x (by simp)]
    exact g.2.1
/-- The one who has no link yet makes it. -/
theorem chL_link {b t : Int} {W : List Int} {f : Int → LS} {i o : Int} (hb : 16 ≤ b) (hi : f i = .a4 o) : ∀ {q : List Int}, q.Nodup → (∀ x ∈ q, 0 ≤ x ∧ x < t) → b + t * 6 ≤ W.length → i ∈ q.drop 1 → chL b W f q → ∃ x ∈ q, o = x * 2 + 1 ∧ x ≠ i ∧ chL b (W.set (nxL b x) (i * 2 + 1)) (updL f i .a5) q
  | [], _, _, _, h, _ => by simp at h
  | [x], _, _, _, h, _ => by simp at h
  | x :: y :: l, nd, rg, len, h, g => by
    have rx := rg x (by simp)
    have ry := rg y (by simp)
    have nd1 := List.nodup_cons.1 nd
    have nd2 := List.nodup_cons.1 nd1.2
    have hxy : x ≠ y := fun e => nd1.1 (by simp [e])
    by_cases hy : i = y
    · subst hy
      have ho : o = x * 2 + 1 := by
        rcases g.2.1 with ⟨e, _⟩ | ⟨e, _⟩
        · rw [hi] at e; cases e; rfl
        · rw [hi] at e; cases e
      refine ⟨x, by simp, ho, hxy, ?_, Or.inr ⟨updL_self _ _ _, ?_⟩, ?_⟩
      · rw [List.getElem?_set_ne (by unfold nxL wtL; omega)]; exact g.1
      · rw [List.getElem?_set_self (by unfold nxL; omega)]
      · refine chL_cong (fun z hz => ?_) (fun z hz => ?_) g.2.2
        · have rz := rg z (by simp at hz ⊢; right; exact hz)
          have : x ≠ z := fun e => nd1.1 (e ▸ hz)
          rw [List.getElem?_set_ne (by unfold nxL; omega)]
        · have hz' : z ∈ l := by simpa using hz
          have rz := rg z (by simp [hz'])
          refine ⟨by rw [List.getElem?_set_ne (by unfold nxL wtL; omega)], updL_ne _ _ (fun e => nd2.1 (e ▸ hz'))⟩
    · have hm : i ∈ l := by
        simp at h; rcases h with h | h
        · exact absurd h hy
        · exact h
      obtain ⟨z, hz, ho, hzi, hc⟩ := chL_link hb hi (q := y :: l) nd1.2 (fun z hz => rg z (by simp at hz ⊢; right; exact hz)) len (by simpa using hm) g.2.2
      have rz := rg z (by simp at hz ⊢; right; exact hz)
      have hxz : x ≠ z := fun e => nd1.1 (e ▸ hz)
      refine ⟨z, by simp at hz ⊢; right; exact hz, ho, hzi, ?_, ?_, hc⟩
      · rw [List.getElem?_set_ne (by unfold nxL wtL; omega)]; exact g.1
      · rw [updL_ne _ _ (fun e => hy e.symm), List.getElem?_set_ne (by unfold nxL; omega)]
        exact g.2.1
/-- What the lock's steps leave alone. -/
def LkAg (b t lk : Int) (W W' : List Int) : Prop := W'.length = W.length ∧ ∀ j, j ≠ lk.toNat → (∀ i, 0 ≤ i → i < t → j ≠ nxL b i ∧ j ≠ wtL b i) → W'[j]? = W[j]?
theorem LkAg.refl (b t lk : Int) (W : List Int) : LkAg b t lk W W := ⟨rfl, fun _ _ _ => rfl⟩
theorem LkAg.nx {b t lk : Int} (W : List Int) {i : Int} (v : Int) (h0 : 0 ≤ i) (h1 : i < t) : LkAg b t lk W (W.set (nxL b i) v) := ⟨by simp, fun j _ h => List.getElem?_set_ne (h i h0 h1).1.symm⟩
theorem LkAg.wt {b t lk : Int} (W : List Int) {i : Int} (v : Int) (h0 : 0 ≤ i) (h1 : i < t) : LkAg b t lk W (W.set (wtL b i) v) := ⟨by simp, fun j _ h => List.getElem?_set_ne (h i h0 h1).2.symm⟩
theorem LkAg.lk {b t lk : Int} (W : List Int) (v : Int) : LkAg b t lk W (W.set lk.toNat v) := ⟨by simp, fun j h _ => List.getElem?_set_ne h.symm⟩
section
variable {b t lk : Int} {W : List Int} {q : List Int} {f : Int → LS} {i : Int}
/-- Words that are none of the lock's. -/
theorem LI.frame (h : LI b t lk W q f) {W' : List Int} (hl : W'.length = W.length) (hk : W'[lk.toNat]? = W[lk.toNat]?) (hw : ∀ i, 0 ≤ i → i < t → W'[nxL b i]? = W[nxL b i]? ∧ W'[wtL b i]? = W[wtL b i]?) : LI b t lk W' q f where
  b3 := h.b3
  k0 := h.k0
  k1 := h.k1
  len := by rw [hl]; exact h.len
  nod := h.nod
  rng := h.rng
  tl := by rw [hk]; exact h.tl
  ou i h0 h1 hq := by
    have := h.ou i h0 h1 hq
    have e := hw i h0 h1
    cases hs : f i <;> rw [hs] at this <;> simp only [ouOK] at this ⊢ <;> first | trivial | (rw [e.1, e.2]; exact this) | (rw [e.1]; exact this)
  hd i l e := by
    have := h.hd i l e
    have r := h.rng i (by simp [e])
    have e2 := hw i r.1 r.2
    cases hs : f i <;> rw [hs] at this <;> simp only [hdOK] at this ⊢ <;> first | trivial | exact this | (rw [e2.2]; exact this) | (rw [e2.1]; exact this)
  ch := chL_cong (fun x hx => (hw x (h.rng x hx).1 (h.rng x hx).2).1) (fun y hy => by
    have r := h.rng y (List.mem_of_mem_drop hy)
    exact ⟨(hw y r.1 r.2).2, rfl⟩) h.ch
/-- Who is not in the queue moves on. -/
theorem LI.outs (h : LI b t lk W q f) (hq : i ∉ q) {W' : List Int} {s : LS} (hl : W'.length = W.length) (hk : W'[lk.toNat]? = W[lk.toNat]?) (hw : ∀ j, 0 ≤ j → j < t → j ≠ i → W'[nxL b j]? = W[nxL b j]? ∧ W'[wtL b j]? = W[wtL b j]?) (hs : ouOK b W' i s) : LI b t lk W' q (updL f i s) where
  b3 := h.b3
  k0 := h.k0
  k1 := h.k1
  len := by rw [hl]; exact h.len
  nod := h.nod
  rng := h.rng
  tl := by rw [hk]; exact h.tl
  ou j h0 h1 hj := by
    by_cases hji : j = i
    · subst hji; rw [updL_self]; exact hs
    · rw [updL_ne _ _ hji]
      have := h.ou j h0 h1 hj
      have e := hw j h0 h1 hji
      cases hs : f j <;> rw [hs] at this <;> simp only [ouOK] at this ⊢ <;> first | trivial | (rw [e.1, e.2]; exact this) | (rw [e.1]; exact this)
  hd j l e := by
    have r := h.rng j (by simp [e])
    have hji : j ≠ i := fun e2 => hq (by rw [← e2, e]; simp)
    rw [updL_ne _ _ hji]
    have := h.hd j l e
    have e2 := hw j r.1 r.2 hji
    cases hs : f j <;> rw [hs] at this <;> simp only [hdOK] at this ⊢ <;> first | trivial | exact this | (rw [e2.2]; exact this) | (rw [e2.1]; exact this)
  ch := chL_cong (fun x hx => (hw x (h.rng x hx).1 (h.rng x hx).2 (fun e => hq (e ▸ hx))).1) (fun y hy => by
    have hm := List.mem_of_mem_drop hy
    have r := h.rng y hm
    have hyi : y ≠ i := fun e => hq (e ▸ hm)
    exact ⟨(hw y r.1 r.2 hyi).2, updL_ne _ _ hyi⟩) h.ch
/-- The first one moves on, and changes no word. -/
theorem LI.first (h : LI b t lk W (i :: q) f) {s : LS} (hs : hdOK b W i q s) : LI b t lk W (i :: q) (updL f i s) where
  b3 := h.b3
  k0 := h.k0
  k1 := h.k1
  len := h.len
  nod := h.nod
  rng := h.rng
  tl := h.tl
  ou j h0 h1 hj := by
    rw [updL_ne _ _ (fun e => hj (by simp [e]))]; exact h.ou j h0 h1 hj
  hd j l e := by cases e; rw [updL_self]; exact hs
  ch := chL_cong (fun x hx => rfl) (fun y hy => ⟨rfl, updL_ne _ _ (fun e => (List.nodup_cons.1 h.nod).1 (by subst e; simpa using hy))⟩) h.ch
theorem LI.start (h : LI b t lk W q f) (h0 : 0 ≤ i) (h1 : i < t) (hf : f i = .out) : LI b t lk W q (updL f i .a1) := by
  have hq : i ∉ q := fun hq => by
    cases q with
    | nil => simp at hq
    | cons x l =>
      by_cases hx : x = i
      · subst hx; have := h.hd _ _ rfl; rw [hf] at this; exact this
      · have hm : i ∈ l := by simp at hq; rcases hq with e | e; exact absurd e.symm hx; exact e
        have aux : ∀ (q : List Int), i ∈ q.drop 1 → chL b W f q → f i ≠ .out := by
          intro q
          induction q with
          | nil => intro h; simp at h
          | cons a q ih =>
            intro hh g
            cases q with
            | nil => simp at hh
            | cons c q =>
              by_cases hc : c = i
              · subst hc; rcases g.2.1 with ⟨e, _⟩ | ⟨e, _⟩ <;> rw [e] <;> simp
              · exact ih (by simp at hh ⊢; rcases hh with e | e; exact absurd e.symm hc; exact e) g.2.2
        exact aux _ (by simpa using hm) h.ch hf
  exact h.outs hq rfl rfl (fun j _ _ _ => ⟨rfl, rfl⟩) trivial
end
end Den

/- The lock under many threads: its steps. -/
set_option maxRecDepth 100000
set_option maxHeartbeats 1000000
set_option linter.unusedSimpArgs false
set_option linter.unusedVariables false
namespace Den
open Go Go.Proofs

theorem chL_mem {b : Int} {W : List Int} {f : Int → LS} {i : Int} : ∀ {q : List Int}, i ∈ q.drop 1 → chL b W f q → W[wtL b i]? = some 1 ∧ (f i = .a5 ∨ ∃ o, f i = .a4 o)
  | [], h, _ => by simp at h
  | [x], h, _ => by simp at h
  | x :: y :: l, h, g => by
    by_cases hy : i = y
    · subst hy
      refine ⟨g.1, ?_⟩
      rcases g.2.1 with ⟨e, _⟩ | ⟨e, _⟩
      · exact Or.inr ⟨_, e⟩
      · exact Or.inl e
    · exact chL_mem (q := y :: l) (by simp at h ⊢; rcases h with e | e; exact absurd e hy; exact e) g.2.2
section
variable {b t lk : Int} {W : List Int} {q : List Int} {f : Int → LS} {i : Int}
theorem LI.cls (h : LI b t lk W q f) (h0 : 0 ≤ i) (h1 : i < t) : (i ∉ q ∧ ouOK b W i (f i)) ∨ (∃ l, q = i :: l ∧ hdOK b W i l (f i)) ∨ (i ∈ q.drop 1 ∧ W[wtL b i]? = some 1 ∧ (f i = .a5 ∨ ∃ o, f i = .a4 o)) := by
  by_cases hq : i ∈ q
  · right
    cases q with
    | nil => simp at hq
    | cons x l =>
      by_cases hx : i = x
      · subst hx; exact Or.inl ⟨l, rfl, h.hd _ _ rfl⟩
      · have hm : i ∈ (x :: l).drop 1 := by simp at hq ⊢; rcases hq with e | e; exact absurd e hx; exact e
        exact Or.inr ⟨hm, chL_mem hm h.ch⟩
  · exact Or.inl ⟨hq, h.ou i h0 h1 hq⟩
theorem LI.isOut (h : LI b t lk W q f) (h0 : 0 ≤ i) (h1 : i < t) (hf : f i = .out ∨ f i = .a1 ∨ f i = .a2 ∨ f i = .a3) : i ∉ q ∧ ouOK b W i (f i) := by
  rcases h.cls h0 h1 with h | ⟨l, _, h⟩ | ⟨_, _, h⟩
  · exact h
  · rcases hf with e | e | e | e <;> rw [e] at h <;> exact h.elim
  · rcases hf with e | e | e | e <;> rw [e] at h <;> simp at h
theorem LI.isHead (h : LI b t lk W q f) (h0 : 0 ≤ i) (h1 : i < t) (hf : f i = .own ∨ f i = .r1 ∨ f i = .r2 ∨ f i = .r3 ∨ ∃ o, f i = .r4 o) : ∃ l, q = i :: l ∧ hdOK b W i l (f i) := by
  rcases h.cls h0 h1 with ⟨_, h⟩ | h | ⟨_, _, h⟩
  · rcases hf with e | e | e | e | ⟨o, e⟩ <;> rw [e] at h <;> exact h.elim
  · exact h
  · rcases hf with e | e | e | e | ⟨o, e⟩ <;> rw [e] at h <;> simp at h
/-- Words of the nodes are there, and lie apart. -/
theorem LI.has (h : LI b t lk W q f) (h0 : 0 ≤ i) (h1 : i < t) : (∃ x, W[nxL b i]? = some x) ∧ (∃ x, W[wtL b i]? = some x) := by
  have := h.b3; have := h.len
  exact ⟨⟨_, List.getElem?_eq_getElem (show nxL b i < W.length by unfold nxL; omega)⟩, ⟨_, List.getElem?_eq_getElem (show wtL b i < W.length by unfold wtL; omega)⟩⟩
theorem ix_ne {b i j : Int} (hb : 16 ≤ b) (h0 : 0 ≤ i) (h1 : 0 ≤ j) (hne : i ≠ j) : nxL b i ≠ nxL b j ∧ wtL b i ≠ wtL b j := by unfold nxL wtL; omega
theorem ix_nw {b i j : Int} (hb : 16 ≤ b) (h0 : 0 ≤ i) (h1 : 0 ≤ j) : nxL b i ≠ wtL b j := by unfold nxL wtL; omega
theorem ix_lk {b i lk : Int} (hb : 16 ≤ b) (h0 : 0 ≤ i) (hk : lk < 16) : nxL b i ≠ lk.toNat ∧ wtL b i ≠ lk.toNat := by unfold nxL wtL; omega
theorem acq_step (h : LI b t lk W q f) (h0 : 0 ≤ i) (h1 : i < t) {pc ot : Int} (hp : 1 ≤ pc ∧ pc ≤ 5) (hf : f i = acqL pc ot) :
    ∃ pc' ot' en W' w q', acqP b t lk (i * 2) pc ot W = some (pc', ot', en, W', w) ∧ LI b t lk W' q' (updL f i (if en = true then .own else acqL pc' ot')) ∧ (1 ≤ pc' ∧ pc' ≤ 5) ∧ LkAg b t lk W W' ∧ (w = true → f i = .a5 ∧ W[wtL b i]? = some 1) := by
  have hb := h.b3
  have hk := h.k1
  have hk0 := h.k0
  have len := h.len
  obtain ⟨⟨xn, hn⟩, ⟨xw, hw⟩⟩ := h.has h0 h1
  have ln : nxL b i < W.length := (List.getElem?_eq_some_iff.1 hn).1
  have lw : wtL b i < W.length := (List.getElem?_eq_some_iff.1 hw).1
  have hn' : W[(b + i * 2 * 3).toNat]? = some xn := hn
  have hw' : W[(b + i * 2 * 3 + 1).toNat]? = some xw := hw
  have lkl : lk.toNat < W.length := (List.getElem?_eq_some_iff.1 h.tl).1
  by_cases p1 : pc = 1
  · subst p1
    have hf' : f i = .a1 := by rw [hf]; rfl
    obtain ⟨hq, _⟩ := h.isOut h0 h1 (by simp [hf'])
    refine ⟨2, ot, false, W.set (nxL b i) 0, false, q, by simp only [acqP, if_true, hn', Option.map_some]; rfl, ?_, by omega, LkAg.nx _ _ h0 h1, by simp⟩
    refine h.outs hq (by simp) (List.getElem?_set_ne (ix_lk hb h0 hk).1) (fun j j0 j1 hj => ⟨List.getElem?_set_ne (ix_ne hb h0 j0 (Ne.symm hj)).1, List.getElem?_set_ne (ix_nw hb h0 j0)⟩) ?_
    show (W.set (nxL b i) 0)[nxL b i]? = some 0
    exact List.getElem?_set_self ln
  by_cases p2 : pc = 2
  · subst p2
    have hf' : f i = .a2 := by rw [hf]; rfl
    obtain ⟨hq, ho⟩ := h.isOut h0 h1 (by simp [hf'])
    rw [hf'] at ho
    refine ⟨3, ot, false, W.set (wtL b i) 1, false, q, by simp only [acqP, if_neg p1, if_true, hw', Option.map_some]; rfl, ?_, by omega, LkAg.wt _ _ h0 h1, by simp⟩
    refine h.outs hq (by simp) (List.getElem?_set_ne (ix_lk hb h0 hk).2) (fun j j0 j1 hj => ⟨List.getElem?_set_ne (ix_nw hb j0 h0).symm, List.getElem?_set_ne (ix_ne hb h0 j0 (Ne.symm hj)).2⟩) ?_
    exact ⟨by rw [List.getElem?_set_ne (ix_nw hb h0 h0).symm]; exact ho, List.getElem?_set_self lw⟩
  by_cases p3 : pc = 3
  · subst p3
    have hf' : f i = .a3 := by rw [hf]; rfl
    obtain ⟨hq, ho⟩ := h.isOut h0 h1 (by simp [hf'])
    rw [hf'] at ho
    have gx : ∀ j, 0 ≤ j → (W.set lk.toNat (i * 2 + 1))[nxL b j]? = W[nxL b j]? ∧ (W.set lk.toNat (i * 2 + 1))[wtL b j]? = W[wtL b j]? := fun j j0 =>
      ⟨List.getElem?_set_ne (ix_lk hb j0 hk).1.symm, List.getElem?_set_ne (ix_lk hb j0 hk).2.symm⟩
    have ouT : ∀ (s : LS) (j : Int), 0 ≤ j → j < t → j ∉ q → j ≠ i → ouOK b (W.set lk.toNat (i * 2 + 1)) j (updL f i s j) := fun s j j0 j1 hj hji => by
      rw [updL_ne _ _ hji]
      have := h.ou j j0 j1 hj
      have e := gx j j0
      cases hs : f j <;> rw [hs] at this <;> simp only [ouOK] at this ⊢ <;> first | trivial | (rw [e.1, e.2]; exact this) | (rw [e.1]; exact this)
    by_cases hqe : q = []
    · subst hqe
      have htl := h.tl
      refine ⟨3, ot, true, W.set lk.toNat (i * 2 + 1), false, [i], by simp only [acqP, if_neg p1, if_neg p2, if_true, htl, tlv, Option.map_some], ?_, by omega, LkAg.lk _ _, by simp⟩
      rw [if_pos rfl]
      exact { b3 := hb, k0 := h.k0, k1 := hk, len := by simpa using len, nod := by simp, rng := fun j hj => by simp at hj; omega
              tl := by rw [List.getElem?_set_self lkl]; rfl
              ou := fun j j0 j1 hj => ouT _ j j0 j1 (by simp) (by simpa using hj)
              hd := fun j l e => by cases e; rw [updL_self]; trivial
              ch := by show (W.set lk.toNat (i * 2 + 1))[nxL b i]? = some 0; rw [(gx i h0).1]; exact ho.1 }
    · obtain ⟨x, hx, ex⟩ := tlv_mem hqe
      have rx := h.rng x hx
      have htl := h.tl
      have hne : ¬ tlv q = 0 := by omega
      refine ⟨4, tlv q, false, W.set lk.toNat (i * 2 + 1), false, q ++ [i], by simp only [acqP, if_neg p1, if_neg p2, if_true, htl, if_neg hne, Option.map_some], ?_, by omega, LkAg.lk _ _, by simp⟩
      have hi : updL f i (acqL 4 (tlv q)) i = .a4 (tlv q) := by rw [updL_self]; rfl
      exact { b3 := hb, k0 := h.k0, k1 := hk, len := by simpa using len
              nod := by
                rw [List.nodup_append]
                exact ⟨h.nod, by simp, fun a ha c hc => by simp at hc; subst hc; intro e; subst e; exact hq ha⟩
              rng := fun j hj => by
                simp only [List.mem_append, List.mem_singleton] at hj
                rcases hj with hj | rfl
                · exact h.rng j hj
                · exact ⟨h0, h1⟩
              tl := by rw [List.getElem?_set_self lkl, tlv_app]
              ou := fun j j0 j1 hj => by
                simp only [List.mem_append, List.mem_singleton] at hj
                exact ouT _ j j0 j1 (fun e => hj (Or.inl e)) (fun e => hj (Or.inr e))
              hd := fun j l e => by
                cases q with
                | nil => exact absurd rfl hqe
                | cons y r =>
                  simp only [List.cons_append, List.cons.injEq] at e
                  obtain ⟨rfl, rfl⟩ := e
                  have ry := h.rng y (by simp)
                  have hyi : y ≠ i := fun e => hq (by simp [e])
                  have := h.hd y r rfl
                  rw [if_neg (by simp), updL_ne _ _ hyi]
                  have e2 := gx y ry.1
                  cases hs : f y <;> rw [hs] at this <;> simp only [hdOK] at this ⊢ <;> first | trivial | (rw [e2.2]; exact this) | (rw [e2.1]; exact this) | (simp; done)
              ch := by
                rw [if_neg (by simp)]
                exact chL_app (by rw [(gx i h0).1]; exact ho.1) (by rw [(gx i h0).2]; exact ho.2) hqe (fun y hy => (gx y (h.rng y hy).1).1) (fun y hy => by
                  have hm := List.mem_of_mem_drop hy
                  exact ⟨(gx y (h.rng y hm).1).2, updL_ne _ _ (fun e => hq (e ▸ hm))⟩) hi h.ch }
  by_cases p4 : pc = 4
  · subst p4
    have hf' : f i = .a4 ot := by rw [hf]; rfl
    have hm : i ∈ q.drop 1 := by
      rcases h.cls h0 h1 with ⟨_, h⟩ | ⟨l, _, h⟩ | ⟨h, _⟩
      · rw [hf'] at h; exact h.elim
      · rw [hf'] at h; exact h.elim
      · exact h
    obtain ⟨x, hx, rfl, hxi, hc⟩ := chL_link hb hf' h.nod h.rng len hm h.ch
    have rx := h.rng x hx
    obtain ⟨⟨xx, hxx⟩, _⟩ := h.has rx.1 rx.2
    have hxx' : W[(b + (x * 2 + 1 - 1) * 3).toNat]? = some xx := by rw [show b + (x * 2 + 1 - 1) * 3 = b + x * 2 * 3 by omega]; exact hxx
    have c1 : 1 ≤ x * 2 + 1 ∧ x * 2 + 1 ≤ t * 2 := by omega
    have hset : W.set (b + (x * 2 + 1 - 1) * 3).toNat (i * 2 + 1) = W.set (nxL b x) (i * 2 + 1) := by
      rw [show b + (x * 2 + 1 - 1) * 3 = b + x * 2 * 3 by omega]; rfl
    refine ⟨5, x * 2 + 1, false, W.set (nxL b x) (i * 2 + 1), false, q, by simp only [acqP, if_neg p1, if_neg p2, if_neg p3, if_true, if_pos c1, hxx', Option.map_some, hset], ?_, by omega, LkAg.nx _ _ rx.1 rx.2, by simp⟩
    rw [if_neg (by simp)]
    have gx : ∀ j, 0 ≤ j → (j ≠ x → (W.set (nxL b x) (i * 2 + 1))[nxL b j]? = W[nxL b j]?) ∧ (W.set (nxL b x) (i * 2 + 1))[wtL b j]? = W[wtL b j]? := fun j j0 =>
      ⟨fun hj => List.getElem?_set_ne (ix_ne hb rx.1 j0 (Ne.symm hj)).1, List.getElem?_set_ne (ix_nw hb rx.1 j0)⟩
    have hiq : i ∈ q := List.mem_of_mem_drop hm
    exact { b3 := hb, k0 := h.k0, k1 := hk, len := by simpa using len, nod := h.nod, rng := h.rng
            tl := by rw [List.getElem?_set_ne (ix_lk hb rx.1 hk).1]; exact h.tl
            ou := fun j j0 j1 hj => by
              have hji : j ≠ i := fun e => hj (e ▸ hiq)
              have hjx : j ≠ x := fun e => hj (e ▸ hx)
              rw [updL_ne _ _ hji]
              have := h.ou j j0 j1 hj
              have e := gx j j0
              cases hs : f j <;> rw [hs] at this <;> simp only [ouOK] at this ⊢ <;> first | trivial | (rw [e.1 hjx, e.2]; exact this) | (rw [e.1 hjx]; exact this)
            hd := fun j l e => by
              subst e
              have rj := h.rng j (by simp)
              have hji : j ≠ i := fun e2 => (List.nodup_cons.1 h.nod).1 (by rw [e2]; simpa using hm)
              rw [updL_ne _ _ hji]
              have := h.hd j l rfl
              have e := gx j rj.1
              cases hs : f j with
              | r4 o =>
                rw [hs] at this
                simp only [hdOK] at this ⊢
                by_cases hjx : j = x
                · subst hjx
                  -- its link is there: not the one that is made now
                  exfalso
                  cases l with
                  | nil => simp at hm
                  | cons y l =>
                    have g := h.ch
                    by_cases hy : i = y
                    · subst hy
                      rcases g.2.1 with ⟨_, e3⟩ | ⟨e3, _⟩
                      · rw [e3] at this; exact this.1 (by have := this.2; simp at this; exact this.symm)
                      · rw [hf'] at e3; cases e3
                    · -- x's follower is i
                      have nd := h.nod
                      obtain ⟨z, hz, ez, hzi, _⟩ := chL_link hb hf' (q := y :: l) (List.nodup_cons.1 nd).2 (fun z hz => h.rng z (by simp at hz ⊢; right; exact hz)) len (by simp at hm ⊢; rcases hm with e | e; exact absurd e hy; exact e) g.2.2
                      have : z = j := by omega
                      subst this
                      exact (List.nodup_cons.1 nd).1 hz
                · rw [e.1 hjx]; exact this
              | _ => rw [hs] at this; simp only [hdOK] at this ⊢ <;> first | trivial | exact this | (rw [e.2]; exact this)
            ch := hc }
  · have p5 : pc = 5 := by omega
    subst p5
    have hf' : f i = .a5 := by rw [hf]; rfl
    rcases h.cls h0 h1 with ⟨_, g⟩ | ⟨l, e, g⟩ | ⟨hm, g, _⟩
    · rw [hf'] at g; exact g.elim
    · rw [hf'] at g
      have g' : W[(b + i * 2 * 3 + 1).toNat]? = some 0 := g
      subst e
      refine ⟨5, ot, true, W, false, i :: l, by simp only [acqP, if_neg p1, if_neg p2, if_neg p3, if_neg p4, if_true, g', Option.map_some], ?_, by omega, LkAg.refl _ _ _ _, by simp⟩
      rw [if_pos rfl]
      exact h.first trivial
    · have g' : W[(b + i * 2 * 3 + 1).toNat]? = some 1 := g
      have c1 : ¬ (1 : Int) = 0 := by omega
      refine ⟨5, ot, false, W, true, q, by simp only [acqP, if_neg p1, if_neg p2, if_neg p3, if_neg p4, if_true, g', if_neg c1, Option.map_some], ?_, by omega, LkAg.refl _ _ _ _, fun _ => ⟨hf', g⟩⟩
      rw [if_neg (by simp)]
      have e : updL f i (acqL 5 ot) = f := by
        funext j
        by_cases hj : j = i
        · subst hj; rw [updL_self, hf]
        · rw [updL_ne _ _ hj]
      rw [e]; exact h
theorem rel_step (h : LI b t lk W q f) (h0 : 0 ≤ i) (h1 : i < t) {pc ot : Int} (hp : 1 ≤ pc ∧ pc ≤ 4) (hf : f i = relL pc ot) :
    ∃ pc' ot' en W' w q', relP b t lk (i * 2) pc ot W = some (pc', ot', en, W', w) ∧ LI b t lk W' q' (updL f i (if en = true then .out else relL pc' ot')) ∧ (1 ≤ pc' ∧ pc' ≤ 4) ∧ LkAg b t lk W W' ∧ (w = true → f i = .r3 ∧ W[nxL b i]? = some 0) := by
  have hb := h.b3
  have hk := h.k1
  have hk0 := h.k0
  have len := h.len
  have hcase : f i = .own ∨ f i = .r1 ∨ f i = .r2 ∨ f i = .r3 ∨ ∃ o, f i = .r4 o := by
    rw [hf]; unfold relL
    by_cases p1 : pc = 1
    · simp [p1]
    by_cases p2 : pc = 2
    · simp [p2]
    by_cases p3 : pc = 3
    · simp [p3]
    · simp [p1, p2, p3]
  obtain ⟨l, rfl, hh⟩ := h.isHead h0 h1 hcase
  obtain ⟨⟨xn, hn⟩, _⟩ := h.has h0 h1
  have hn' : W[(b + i * 2 * 3).toNat]? = some xn := hn
  by_cases p1 : pc = 1
  · subst p1
    by_cases hx : xn = 0
    · exact ⟨2, ot, false, W, false, i :: l, by simp only [relP, if_true, hn', if_pos hx, Option.map_some], h.first (by rw [if_neg (by simp)]; trivial), by omega, LkAg.refl _ _ _ _, by simp⟩
    · exact ⟨4, xn, false, W, false, i :: l, by simp only [relP, if_true, hn', if_neg hx, Option.map_some], h.first (by rw [if_neg (by simp)]; exact ⟨hx, hn⟩), by omega, LkAg.refl _ _ _ _, by simp⟩
  by_cases p3 : pc = 3
  · subst p3
    have hf' : f i = .r3 := by rw [hf]; rfl
    rw [hf'] at hh
    by_cases hx : xn = 0
    · exact ⟨3, ot, false, W, true, i :: l, by simp only [relP, if_neg p1, if_true, hn', if_pos hx, Option.map_some], h.first (by rw [if_neg (by simp)]; exact hh), by omega, LkAg.refl _ _ _ _, fun _ => ⟨hf', by rw [hn, hx]⟩⟩
    · exact ⟨4, xn, false, W, false, i :: l, by simp only [relP, if_neg p1, if_true, hn', if_neg hx, Option.map_some], h.first (by rw [if_neg (by simp)]; exact ⟨hx, hn⟩), by omega, LkAg.refl _ _ _ _, by simp⟩
  by_cases p2 : pc = 2
  · subst p2
    have htl := h.tl
    have lkl : lk.toNat < W.length := (List.getElem?_eq_some_iff.1 h.tl).1
    by_cases hl : l = []
    · subst hl
      refine ⟨2, ot, true, W.set lk.toNat 0, false, [], by simp only [relP, if_neg p1, if_neg p3, if_true, htl, tlv, Option.map_some], ?_, by omega, LkAg.lk _ _, by simp⟩
      rw [if_pos rfl]
      exact { b3 := hb, k0 := h.k0, k1 := hk, len := by simpa using len, nod := by simp, rng := fun j hj => by simp at hj
              tl := by rw [List.getElem?_set_self lkl]; rfl
              ou := fun j j0 j1 hj => by
                by_cases hji : j = i
                · subst hji; rw [updL_self]; trivial
                · rw [updL_ne _ _ hji]
                  have := h.ou j j0 j1 (by simpa using hji)
                  have e1 : (W.set lk.toNat 0)[nxL b j]? = W[nxL b j]? := List.getElem?_set_ne (ix_lk hb j0 hk).1.symm
                  have e2 : (W.set lk.toNat 0)[wtL b j]? = W[wtL b j]? := List.getElem?_set_ne (ix_lk hb j0 hk).2.symm
                  cases hs : f j <;> rw [hs] at this <;> simp only [ouOK] at this ⊢ <;> first | trivial | (rw [e1, e2]; exact this) | (rw [e1]; exact this)
              hd := fun j l e => by cases e
              ch := trivial }
    · obtain ⟨x, hx, ex⟩ := tlv_mem hl
      have htl2 : tlv (i :: l) = x * 2 + 1 := by
        cases l with
        | nil => exact absurd rfl hl
        | cons y l => exact ex
      have hne : ¬ tlv (i :: l) = i * 2 + 1 := by
        rw [htl2]; intro e
        have : x = i := by omega
        subst this
        exact (List.nodup_cons.1 h.nod).1 hx
      exact ⟨3, ot, false, W, false, i :: l, by simp only [relP, if_neg p1, if_neg p3, if_true, htl, if_neg hne, Option.map_some], h.first (by rw [if_neg (by simp)]; exact hl), by omega, LkAg.refl _ _ _ _, by simp⟩
  · have p4 : pc = 4 := by omega
    subst p4
    have hf' : f i = .r4 ot := by rw [hf]; rfl
    rw [hf'] at hh
    obtain ⟨ho, ho2⟩ := hh
    cases l with
    | nil =>
      have := h.ch
      simp only [chL] at this
      rw [this] at ho2; simp at ho2; exact absurd ho2.symm ho
    | cons y l =>
      have g := h.ch
      rcases g.2.1 with ⟨_, e⟩ | ⟨e, e2⟩
      · rw [e] at ho2; simp at ho2; exact absurd ho2.symm ho
      rw [e2] at ho2
      have ho3 : ot = y * 2 + 1 := by simp at ho2; exact ho2.symm
      subst ho3
      have ry := h.rng y (by simp)
      have nd := List.nodup_cons.1 h.nod
      have hyi : y ≠ i := fun e => nd.1 (by simp [e])
      have c1 : 1 ≤ y * 2 + 1 ∧ y * 2 + 1 ≤ t * 2 := by omega
      obtain ⟨_, ⟨xw, hw⟩⟩ := h.has ry.1 ry.2
      have lw : wtL b y < W.length := (List.getElem?_eq_some_iff.1 hw).1
      have hw' : W[(b + (y * 2 + 1 - 1) * 3 + 1).toNat]? = some xw := by rw [show b + (y * 2 + 1 - 1) * 3 + 1 = b + y * 2 * 3 + 1 by omega]; exact hw
      have hset : W.set (b + (y * 2 + 1 - 1) * 3 + 1).toNat 0 = W.set (wtL b y) 0 := by
        rw [show b + (y * 2 + 1 - 1) * 3 + 1 = b + y * 2 * 3 + 1 by omega]; rfl
      refine ⟨4, y * 2 + 1, true, W.set (wtL b y) 0, false, y :: l, by simp only [relP, if_neg p1, if_neg p2, if_neg p3, if_true, if_pos c1, hw', hset, Option.map_some], ?_, by omega, LkAg.wt _ _ ry.1 ry.2, by simp⟩
      rw [if_pos rfl]
      have gx : ∀ j, 0 ≤ j → (W.set (wtL b y) 0)[nxL b j]? = W[nxL b j]? ∧ (j ≠ y → (W.set (wtL b y) 0)[wtL b j]? = W[wtL b j]?) := fun j j0 =>
        ⟨List.getElem?_set_ne (ix_nw hb j0 ry.1).symm, fun hj => List.getElem?_set_ne (ix_ne hb ry.1 j0 (Ne.symm hj)).2⟩
      exact { b3 := hb, k0 := h.k0, k1 := hk, len := by simpa using len, nod := nd.2, rng := fun j hj => h.rng j (by simp at hj ⊢; right; exact hj)
              tl := by rw [List.getElem?_set_ne (ix_lk hb ry.1 hk).2]; exact h.tl
              ou := fun j j0 j1 hj => by
                by_cases hji : j = i
                · subst hji; rw [updL_self]; trivial
                · rw [updL_ne _ _ hji]
                  have hjy : j ≠ y := fun e => hj (by simp [e])
                  have := h.ou j j0 j1 (by simp at hj ⊢; exact ⟨hji, hj⟩)
                  have e := gx j j0
                  cases hs : f j <;> rw [hs] at this <;> simp only [ouOK] at this ⊢ <;> first | trivial | (rw [e.1, e.2 hjy]; exact this) | (rw [e.1]; exact this)
              hd := fun j r e3 => by
                cases e3
                rw [updL_ne _ _ hyi, e]
                exact List.getElem?_set_self lw
              ch := chL_cong (fun x hx => (gx x (h.rng x (by simp at hx ⊢; right; exact hx)).1).1) (fun z hz => by
                have hz' : z ∈ l := by simpa using hz
                exact ⟨(gx z (h.rng z (by simp [hz'])).1).2 (fun e => (List.nodup_cons.1 nd.2).1 (e ▸ hz')), updL_ne _ _ (fun e => nd.1 (by subst e; simp [hz']))⟩) g.2.2 }
/-- Where there is a queue, somebody can go on. -/
theorem LI.live (h : LI b t lk W q f) (hq : q ≠ []) : ∃ i, 0 ≤ i ∧ i < t ∧ f i ≠ .out ∧ ¬ (f i = .a5 ∧ W[wtL b i]? = some 1) ∧ ¬ (f i = .r3 ∧ W[nxL b i]? = some 0) := by
  cases q with
  | nil => exact absurd rfl hq
  | cons x l =>
    have rx := h.rng x (by simp)
    have hh := h.hd x l rfl
    by_cases h3 : f x = .r3 ∧ W[nxL b x]? = some 0
    · rw [h3.1] at hh
      cases l with
      | nil => exact absurd rfl hh
      | cons y l =>
        have ry := h.rng y (by simp)
        rcases h.ch.2.1 with ⟨e, _⟩ | ⟨_, e⟩
        · exact ⟨y, ry.1, ry.2, by rw [e]; simp, by rw [e]; simp, by rw [e]; simp⟩
        · rw [e] at h3; have := h3.2; simp at this; omega
    · refine ⟨x, rx.1, rx.2, ?_, ?_, h3⟩
      · intro e; rw [e] at hh; exact hh
      · rintro ⟨e, e2⟩; rw [e] at hh; simp only [hdOK] at hh; rw [hh] at e2; simp at e2
end
end Den

/- TicketRaces: the invariant of threads that draw, and its steps. -/
set_option maxRecDepth 100000
set_option maxHeartbeats 1000000
set_option linter.unusedSimpArgs false
set_option linter.unusedVariables false
namespace Den
open Go Go.Proofs

theorem updL_id (f : Int → LS) (i : Int) : updL f i (f i) = f := by
  funext j
  by_cases hj : j = i
  · subst hj; rw [updL_self]
  · rw [updL_ne _ _ hj]
def upD (D : Int → Option DP) (i : Int) (v : Option DP) : Int → Option DP := fun j => if j = i then v else D j
theorem upD_self (D : Int → Option DP) (i : Int) (v : Option DP) : upD D i v i = v := by simp [upD]
theorem upD_ne (D : Int → Option DP) {i j : Int} (v : Option DP) (h : j ≠ i) : upD D i v j = D j := by simp [upD, h]
/-- A thread: g numbers have been given out. -/
inductive TD (g : Int) : Option DP → LS → Int → Prop
  | no : TD g none .out 0
  | d1 {p : DP} : p.st = 1 → p.ea = false → (1 ≤ p.pa ∧ p.pa ≤ 5) → p.pr = 1 → p.or = 0 → p.er = false → TD g (some p) (acqL p.pa p.oa) 0
  | d2 {p : DP} : p.st = 2 → p.pr = 1 → p.or = 0 → p.er = false → TD g (some p) .own 0
  | d3 {p : DP} : p.st = 3 → p.nu = g + 1 → p.pr = 1 → p.or = 0 → p.er = false → TD g (some p) .own 0
  | d4 {p : DP} : p.st = 4 → p.nu = g + 1 → (1 ≤ p.pr ∧ p.pr ≤ 4) → p.er = false → TD g (some p) (relL p.pr p.or) 1
/-- c: one if somebody has a number that is not given out yet. -/
structure RD (b t : Int) (W : List Int) (q : List Int) (f : Int → LS) (g c : Int) (D : Int → Option DP) : Prop where
  lk : LI b t 5 W q f
  th : ∀ i, 0 ≤ i → i < t → ∃ x, TD g (D i) (f i) x ∧ (x = 1 → c = 1)
  w7 : W[7]? = some (g + c)
  g0 : 0 ≤ g
  c0 : c = 0 ∨ c = 1 ∧ ∃ i, 0 ≤ i ∧ i < t ∧ TD g (D i) (f i) 1
theorem LkAg.seven {b t : Int} {W W' : List Int} (hb : 16 ≤ b) (g : LkAg b t 5 W W') : W'[7]? = W[7]? := g.2 7 (by decide) (fun i h0 _ => by unfold nxL wtL; omega)
theorem relL_ne0 (pc ot : Int) : relL pc ot ≠ .own := by
  unfold relL; repeat' split
  all_goals simp
/-- Where the lock is not held nothing depends on the number. -/
theorem TD.other {g g' x : Int} {d : Option DP} {s : LS} (h : TD g d s x) (h1 : s ≠ .own) (h2 : ∀ a o, s ≠ relL a o) : TD g' d s x ∧ x = 0 := by
  cases h with
  | no => exact ⟨.no, rfl⟩
  | d1 a1 a2 a3 a4 a5 a6 => exact ⟨.d1 a1 a2 a3 a4 a5 a6, rfl⟩
  | d2 => exact absurd rfl h1
  | d3 => exact absurd rfl h1
  | d4 => exact absurd rfl (h2 _ _)
theorem LI.holder {b t lk : Int} {W : List Int} {q : List Int} {f : Int → LS} (h : LI b t lk W q f) {i j : Int} (i0 : 0 ≤ i) (i1 : i < t) (j0 : 0 ≤ j) (j1 : j < t) (hi : f i = .own ∨ ∃ pc ot, f i = relL pc ot) (hne : j ≠ i) : f j ≠ .own ∧ ∀ a o, f j ≠ relL a o := by
  have aux : ∀ {k : Int}, (f k = .own ∨ ∃ pc ot, f k = relL pc ot) → f k = .own ∨ f k = .r1 ∨ f k = .r2 ∨ f k = .r3 ∨ ∃ o, f k = .r4 o := by
    intro k hk
    rcases hk with e | ⟨pc, ot, e⟩
    · exact Or.inl e
    · rw [e]; unfold relL; repeat' split
      all_goals simp
  obtain ⟨l, e1, _⟩ := h.isHead i0 i1 (aux hi)
  have no : ¬ (f j = .own ∨ ∃ pc ot, f j = relL pc ot) := fun hj => by
    obtain ⟨l2, e2, _⟩ := h.isHead j0 j1 (aux hj)
    rw [e1] at e2; cases e2; exact hne rfl
  exact ⟨fun e => no (Or.inl e), fun a o e => no (Or.inr ⟨a, o, e⟩)⟩
section
variable {b t g c i : Int} {W : List Int} {q : List Int} {f : Int → LS} {D : Int → Option DP}
theorem RD.c_own (h : RD b t W q f g c D) (h0 : 0 ≤ i) (h1 : i < t) (hf : f i = .own) : c = 0 := by
  rcases h.c0 with e | ⟨_, k, k0, k1, hk⟩
  · exact e
  · exfalso
    by_cases hki : k = i
    · subst hki; rw [hf] at hk
      generalize hs : LS.own = s at hk
      generalize hx : (1 : Int) = x at hk
      generalize D k = d at hk
      cases hk with
      | no => cases hs
      | d1 => omega
      | d2 => omega
      | d3 => omega
      | d4 => exact (relL_ne0 _ _ hs.symm).elim
    · obtain ⟨n1, n2⟩ := h.lk.holder h0 h1 k0 k1 (Or.inl hf) hki
      have := (hk.other (g' := g) n1 n2).2
      omega
/-- A step of the lock's programs. -/
theorem RD.lockMove (h : RD b t W q f g c D) (h0 : 0 ≤ i) (h1 : i < t) {W' : List Int} {q' : List Int} {s : LS} {d : Option DP} {x : Int} (hl : LI b t 5 W' q' (updL f i s)) (ag : LkAg b t 5 W W') (ht : TD g d s x) (hx : ∀ y, TD g (D i) (f i) y → y = x) : RD b t W' q' (updL f i s) g c (upD D i d) where
  lk := hl
  th j j0 j1 := by
    by_cases hj : j = i
    · subst hj
      rw [updL_self, upD_self]
      obtain ⟨y, hy, hc⟩ := h.th j j0 j1
      have := hx y hy; subst this
      exact ⟨y, ht, hc⟩
    · rw [updL_ne _ _ hj, upD_ne _ _ hj]; exact h.th j j0 j1
  w7 := by rw [ag.seven h.lk.b3]; exact h.w7
  g0 := h.g0
  c0 := by
    rcases h.c0 with e | ⟨e, k, k0, k1, hk⟩
    · exact Or.inl e
    · refine Or.inr ⟨e, k, k0, k1, ?_⟩
      by_cases hki : k = i
      · subst hki
        rw [updL_self, upD_self]
        have := hx 1 hk; subst this
        exact ht
      · rw [updL_ne _ _ hki, upD_ne _ _ hki]; exact hk
theorem TD.x_of {g g' x y : Int} {d : Option DP} {s s' : LS} (h : TD g d s x) (h' : TD g' d s' y) : y = x := by
  cases h with
  | no => cases h'; rfl
  | d1 a1 => cases h' <;> first | rfl | omega
  | d2 a1 => cases h' <;> first | rfl | omega
  | d3 a1 => cases h' <;> first | rfl | omega
  | d4 a1 => cases h' <;> first | rfl | omega
theorem rd_step (hg : g ≤ 100000) (h : RD b t W q f g c D) (h0 : 0 ≤ i) (h1 : i < t) {p : DP} (hp : D i = some p) :
    ∃ p' W' w q' f', drawP b t i p W = some (p', W', w) ∧ ((p'.st ≠ 5 ∧ ∃ c', RD b t W' q' f' g c' (upD D i (some p'))) ∨ (p'.st = 5 ∧ p'.nu = g + 1 ∧ RD b t W' q' f' (g + 1) 0 (upD D i none))) ∧ (w = true → (f i = .a5 ∧ W[wtL b i]? = some 1) ∨ (f i = .r3 ∧ W[nxL b i]? = some 0)) := by
  obtain ⟨x, hT, hc⟩ := h.th i h0 h1
  have hu : ∀ y, TD g (D i) (f i) y → y = x := fun y hy => hT.x_of hy
  have hb := h.lk.b3
  have hg0 := h.g0
  have hlen := h.lk.len
  generalize hs : f i = s at hT
  rw [hp] at hT
  generalize hd : some p = d at hT
  cases hT with
  | no => cases hd
  | @d1 p1 a1 a2 a3 a4 a5 a6 =>
    cases hd
    obtain ⟨pc', ot', en, W', w, q', e, hl, hpp, ag, hw⟩ := acq_step h.lk h0 h1 a3 hs
    have e2 : drawP b t i p W = some ({ p with st := if en = true then 2 else 1, pa := pc', oa := ot', ea := en }, W', w) := by
      unfold drawP; rw [if_pos a1, if_pos a2, e]
    refine ⟨_, W', w, q', updL f i (if en = true then .own else acqL pc' ot'), e2, Or.inl ?_, fun h => Or.inl (by rw [← hs]; exact hw h)⟩
    cases en with
    | true => exact ⟨by simp, c, h.lockMove h0 h1 hl ag (.d2 (p := { p with st := 2, pa := pc', oa := ot', ea := true }) rfl a4 a5 a6) hu⟩
    | false => exact ⟨by simp, c, h.lockMove h0 h1 hl ag (.d1 (p := { p with st := 1, pa := pc', oa := ot', ea := false }) rfl rfl hpp a4 a5 a6) hu⟩
  | @d2 p1 a1 a2 a3 a4 =>
    cases hd
    have c0 := h.c_own h0 h1 hs
    have e2 : drawP b t i p W = some ({ p with st := 3, nu := g + 1 }, W, false) := by
      unfold drawP; rw [if_neg (by omega), if_pos a1, h.w7, c0]
      simp only [Int.add_zero]
      rw [if_pos (by omega)]
    exact ⟨_, W, false, q, updL f i .own, e2, Or.inl ⟨by simp, c, h.lockMove h0 h1 (by rw [← hs, updL_id]; exact h.lk) (LkAg.refl _ _ _ _) (.d3 (p := { p with st := 3, nu := g + 1 }) rfl rfl a2 a3 a4) hu⟩, by simp⟩
  | @d3 p1 a1 a2 a3 a4 a5 =>
    cases hd
    have c0 := h.c_own h0 h1 hs
    have e2 : drawP b t i p W = some ({ p with st := 4 }, W.set 7 p.nu, false) := by
      unfold drawP; rw [if_neg (by omega), if_neg (by omega), if_pos a1, h.w7]
    have h7 : 7 < W.length := (List.getElem?_eq_some_iff.1 h.w7).1
    have hl : LI b t 5 (W.set 7 p.nu) q f := h.lk.frame (by simp) (by rw [List.getElem?_set_ne (by decide)]) (fun j j0 _ => ⟨List.getElem?_set_ne (by unfold nxL; omega), List.getElem?_set_ne (by unfold wtL; omega)⟩)
    have hr : relL p.pr p.or = .r1 := by rw [a3]; rfl
    have hT4 : TD g (some { p with st := 4 }) .r1 1 := by
      have := TD.d4 (g := g) (p := { p with st := 4 }) rfl a2 (by show 1 ≤ p.pr ∧ p.pr ≤ 4; omega) a5
      rw [show relL ({ p with st := 4 } : DP).pr ({ p with st := 4 } : DP).or = .r1 from hr] at this
      exact this
    refine ⟨_, W.set 7 p.nu, false, q, updL f i .r1, e2, Or.inl ⟨by simp, 1, ?_⟩, by simp⟩
    exact { lk := by
              obtain ⟨l, e, _⟩ := hl.isHead h0 h1 (Or.inl hs)
              subst e
              exact hl.first trivial
            th := fun j j0 j1 => by
              by_cases hj : j = i
              · subst hj; rw [updL_self, upD_self]; exact ⟨1, hT4, fun _ => rfl⟩
              · rw [updL_ne _ _ hj, upD_ne _ _ hj]
                obtain ⟨y, hy, _⟩ := h.th j j0 j1
                exact ⟨y, hy, fun _ => rfl⟩
            w7 := by rw [List.getElem?_set_self h7, a2]
            g0 := hg0
            c0 := Or.inr ⟨rfl, i, h0, h1, by rw [updL_self, upD_self]; exact hT4⟩ }
  | @d4 p1 a1 a2 a3 a4 =>
    cases hd
    have hc1 := hc rfl
    obtain ⟨pc', ot', en, W', w, q', e, hl, hpp, ag, hw⟩ := rel_step h.lk h0 h1 a3 hs
    have e2 : drawP b t i p W = some ({ p with st := if en = true then 5 else 4, pr := pc', or := ot', er := en }, W', w) := by
      unfold drawP; rw [if_neg (by omega), if_neg (by omega), if_neg (by omega), if_pos a1, if_pos a4, e]
    refine ⟨_, W', w, q', updL f i (if en = true then .out else relL pc' ot'), e2, ?_, fun h => Or.inr (by rw [← hs]; exact hw h)⟩
    cases en with
    | false => exact Or.inl ⟨by simp, c, h.lockMove h0 h1 hl ag (.d4 (p := { p with st := 4, pr := pc', or := ot', er := false }) rfl a2 hpp rfl) hu⟩
    | true =>
      refine Or.inr ⟨rfl, a2, ?_⟩
      exact { lk := hl
              th := fun j j0 j1 => by
                by_cases hj : j = i
                · subst hj; rw [updL_self, upD_self]; exact ⟨0, .no, fun e => by omega⟩
                · rw [updL_ne _ _ hj, upD_ne _ _ hj]
                  obtain ⟨y, hy, _⟩ := h.th j j0 j1
                  obtain ⟨n1, n2⟩ := h.lk.holder h0 h1 j0 j1 (Or.inr ⟨_, _, hs⟩) hj
                  obtain ⟨k1, k2⟩ := hy.other (g' := g + 1) n1 n2
                  exact ⟨y, k1, fun e => by omega⟩
              w7 := by rw [ag.seven hb, h.w7, hc1]; simp
              g0 := by omega
              c0 := Or.inl rfl }
end
end Den
