/- Rules for objects, with what must hold as a truth value that is reckoned out; results that are addresses of objects. -/
import Derived.Test.YtajdklfckcgifaaGreatDenG5
set_option linter.unusedSectionVars false
set_option linter.unusedVariables false
set_option linter.unusedSimpArgs false
set_option linter.defProp false
namespace Den
open Go

theorem g_stOA (O : Mo) (S : Ms) (k sz off : Nat) (cs xs : List AV) : stO (some (.arr cs)) sz off (.agg xs) O S k = gA (decide (xs.length = sz) && decide (off + sz ≤ cs.length) && lowL 1 xs) (some (O.set k (.arr (putAt cs off xs)), S)) := by
  have e : lowL 1 xs = (AV.agg xs).low 1 := rfl
  refine gA_of (fun h => ?_) fun h => ?_
  · simp only [Bool.and_eq_true, decide_eq_true_eq] at h
    exact stO_agg h.1.1 h.1.2 (by rw [← e]; exact h.2)
  · simp only [stO, AV.okv, AV.cells, true_and]
    rw [if_neg]
    rintro ⟨h1, h2, h3⟩
    rw [e, h3] at h
    simp [h1, h2] at h
theorem g_boxO (O : Mo) (S : Ms) (sz : Nat) (cs : List AV) : boxC sz true (.agg cs) O S = gA (decide (cs.length = sz) && lowL 1 cs) (some (.ref 0 O.length 0, O ++ [.arr cs], S)) := by
  refine gA_of (fun h => ?_) fun h => ?_
  · simp only [Bool.and_eq_true, decide_eq_true_eq] at h
    have h2 : (AV.agg cs).low 1 = true := h.2
    simp [boxC, AV.okv, AV.cells, h.1, h2, newD, newK, newO, newS]
  · simp only [Bool.and_eq_false_iff, decide_eq_false_iff_not] at h
    have hn : ¬ (cs.length = sz ∧ (AV.agg cs).low 1 = true) := fun h' => by
      rcases h with h | h
      · exact h h'.1
      · rw [show lowL 1 cs = (AV.agg cs).low 1 from rfl, h'.2] at h; cases h
    simp only [boxC, AV.okv, AV.cells, newD, if_true, true_and, Nat.zero_add]
    rw [if_neg hn]
theorem low1_iface (lim t d k o : Nat) : low1 lim (.iface t (.ref d k o)) = decide (d < lim) := by simp [low1, lowL, AV.low]
theorem low1_nilf (lim : Nat) : low1 lim .nilf = true := rfl
theorem low1_nilm (lim : Nat) : low1 lim .nilm = true := rfl
theorem low1_emp (lim : Nat) : low1 lim .emp = true := rfl
theorem low1_map (lim d k : Nat) : low1 lim (.map d k) = decide (d < lim) := by simp [low1, lowL, AV.low]
theorem low_nilp' (lim : Nat) : AV.low lim .nilp = true := rfl
theorem low_nili' (lim : Nat) : AV.low lim .nili = true := rfl
theorem low_iface' (lim t d k o : Nat) : AV.low lim (.iface t (.ref d k o)) = decide (d < lim) := rfl
theorem go_one (O : Mo) (S : Ms) (k off : Nat) (cs : List AV) (v : AV) (h : v.one = true) : stO (some (.arr cs)) 1 off v O S k = gA (decide (off < cs.length) && v.low 1) (some (O.set k (.arr (cs.set off v)), S)) := by
  refine gA_of (fun h2 => ?_) fun h2 => ?_
  · simp only [Bool.and_eq_true, decide_eq_true_eq] at h2
    exact stO_one h h2.1 h2.2
  · simp only [stO, one_okv h, one_cells h, true_and]
    rw [if_neg]
    rintro ⟨_, h3, h4⟩
    rw [h4] at h2
    have : off < cs.length := h3
    simp [this] at h2
section
variable (O : Mo) (S : Ms) (k off : Nat) (cs : List AV)
theorem go_int (q : IntKind) (n : Int) : stO (some (.arr cs)) 1 off (.int q n) O S k = gA (decide (off < cs.length) && AV.low 1 (.int q n)) (some (O.set k (.arr (cs.set off (.int q n))), S)) := go_one _ _ _ _ _ _ rfl
theorem go_bool (b : Bool) : stO (some (.arr cs)) 1 off (.bool b) O S k = gA (decide (off < cs.length) && AV.low 1 (.bool b)) (some (O.set k (.arr (cs.set off (.bool b))), S)) := go_one _ _ _ _ _ _ rfl
theorem go_str (b : List UInt8) : stO (some (.arr cs)) 1 off (.str b) O S k = gA (decide (off < cs.length) && AV.low 1 (.str b)) (some (O.set k (.arr (cs.set off (.str b))), S)) := go_one _ _ _ _ _ _ rfl
theorem go_ref (d i o : Nat) : stO (some (.arr cs)) 1 off (.ref d i o) O S k = gA (decide (off < cs.length) && AV.low 1 (.ref d i o)) (some (O.set k (.arr (cs.set off (.ref d i o))), S)) := go_one _ _ _ _ _ _ rfl
theorem go_bref (d i o l t : Nat) : stO (some (.arr cs)) 1 off (.bref d i o l t) O S k = gA (decide (off < cs.length) && AV.low 1 (.bref d i o l t)) (some (O.set k (.arr (cs.set off (.bref d i o l t))), S)) := go_one _ _ _ _ _ _ rfl
theorem go_iface (ty : TypeId) (v : AV) : stO (some (.arr cs)) 1 off (.iface ty v) O S k = gA (decide (off < cs.length) && AV.low 1 (.iface ty v)) (some (O.set k (.arr (cs.set off (.iface ty v))), S)) := go_one _ _ _ _ _ _ rfl
theorem go_nilp : stO (some (.arr cs)) 1 off .nilp O S k = gA (decide (off < cs.length) && AV.low 1 .nilp) (some (O.set k (.arr (cs.set off .nilp)), S)) := go_one _ _ _ _ _ _ rfl
theorem go_nili : stO (some (.arr cs)) 1 off .nili O S k = gA (decide (off < cs.length) && AV.low 1 .nili) (some (O.set k (.arr (cs.set off .nili)), S)) := go_one _ _ _ _ _ _ rfl
theorem go_nils : stO (some (.arr cs)) 1 off .nils O S k = gA (decide (off < cs.length) && AV.low 1 .nils) (some (O.set k (.arr (cs.set off .nils)), S)) := go_one _ _ _ _ _ _ rfl
end
theorem get4 {α : Type} (a b c d e : α) (l : List α) : (a :: b :: c :: d :: e :: l)[4]? = some e := rfl
theorem get5 {α : Type} (a b c d e f : α) (l : List α) : (a :: b :: c :: d :: e :: f :: l)[5]? = some f := rfl
theorem get6 {α : Type} (a b c d e f g : α) (l : List α) : (a :: b :: c :: d :: e :: f :: g :: l)[6]? = some g := rfl
theorem get7 {α : Type} (a b c d e f g h : α) (l : List α) : (a :: b :: c :: d :: e :: f :: g :: h :: l)[7]? = some h := rfl
theorem get8 {α : Type} (a b c d e f g h i : α) (l : List α) : (a :: b :: c :: d :: e :: f :: g :: h :: i :: l)[8]? = some i := rfl
theorem get9 {α : Type} (a b c d e f g h i j : α) (l : List α) : (a :: b :: c :: d :: e :: f :: g :: h :: i :: j :: l)[9]? = some j := rfl
theorem get10 {α : Type} (a b c d e f g h i j k : α) (l : List α) : (a :: b :: c :: d :: e :: f :: g :: h :: i :: j :: k :: l)[10]? = some k := rfl
section
variable (B : Ms) (F : List ABlk)
theorem snap1_ref0 (k o : Nat) : snap1 (B ++ [F]) (.ref 0 k o) = some (.ref 0 k o) := by simp [snap1, AV.low]
theorem snap2_ref0 (k o : Nat) : snap2 (B ++ [F]) (.ref 0 k o) = some (.ref 0 k o) := snap1_ref0 B F k o
theorem snap_ref0 (k o : Nat) : snap (B ++ [F]) (.ref 0 k o) = some (.ref 0 k o) := snap1_ref0 B F k o
theorem snap1_if0 (t k o : Nat) : snap1 (B ++ [F]) (.iface t (.ref 0 k o)) = some (.iface t (.ref 0 k o)) := by simp [snap1, AV.low]
theorem snap2_if0 (t k o : Nat) : snap2 (B ++ [F]) (.iface t (.ref 0 k o)) = some (.iface t (.ref 0 k o)) := snap1_if0 B F t k o
theorem snap_if0 (t k o : Nat) : snap (B ++ [F]) (.iface t (.ref 0 k o)) = some (.iface t (.ref 0 k o)) := snap1_if0 B F t k o
theorem snap1_br0 (k o l t : Nat) : snap1 (B ++ [F]) (.bref 0 k o l t) = some (.bref 0 k o l t) := by simp [snap1]
theorem snap2_br0 (k o l t : Nat) : snap2 (B ++ [F]) (.bref 0 k o l t) = some (.bref 0 k o l t) := snap1_br0 B F k o l t
theorem snap_br0 (k o l t : Nat) : snap (B ++ [F]) (.bref 0 k o l t) = some (.bref 0 k o l t) := snap1_br0 B F k o l t
end
theorem snap1_nilp' (S : Ms) : snap1 S .nilp = some .nilp := rfl
theorem snap2_nilp' (S : Ms) : snap2 S .nilp = some .nilp := rfl
theorem snap_nilp' (S : Ms) : snap S .nilp = some .nilp := rfl
theorem snap1_nili' (S : Ms) : snap1 S .nili = some .nili := rfl
theorem snap2_nili' (S : Ms) : snap2 S .nili = some .nili := rfl
theorem snap_nili' (S : Ms) : snap S .nili = some .nili := rfl
theorem snap_tupE (S : Ms) : snap S (.tup []) = some (.tup []) := rfl

/-! Methods behind interfaces -/
section
variable (cfg : Cfg) (call : CallT) {dst : Option Nat} {l : List AOp}
def invkM (o : Option FuncId) (v : AV) (args : List AV) (dst : Option Nat) (l : List AOp) (st : St) : Option St :=
  match o with
  | some f => putM cfg call (call f (v :: args) st.O st.S) dst l st
  | none => none
def invkC (x : AV) (m : String) (args : List AV) (dst : Option Nat) (l : List AOp) (st : St) : Option St :=
  match x with
  | .iface t v => invkM cfg call (cfg.meth t m) v args dst l st
  | _ => none
theorem r_invk (st : St) (x : Opd) (m : String) (args : List Opd) : execOps cfg call (⟨dst, none, .invk x m args, []⟩ :: l) st = invkC cfg call (ev st.env x) m (args.map (ev st.env)) dst l st := by
  simp only [execOps, wanted, opx, AO.isCall, if_true, callee, invkC]
  cases ev st.env x <;> (try rfl)
  rename_i t v
  simp only [invkM]
  cases cfg.meth t m with
  | none => rfl
  | some f =>
    simp only [Option.map_some]
    cases call f (v :: args.map (ev st.env)) st.O st.S with
    | none => rfl
    | some p => obtain ⟨r, O, S⟩ := p; simp [putM, chks]
theorem inv_if (t : TypeId) (v : AV) (m : String) (args : List AV) (st : St) : invkC cfg call (.iface t v) m args dst l st = invkM cfg call (cfg.meth t m) v args dst l st := rfl
theorem inv_some (f : FuncId) (v : AV) (args : List AV) (st : St) : invkM cfg call (some f) v args dst l st = putM cfg call (call f (v :: args) st.O st.S) dst l st := rfl
def invkXM (o : Option FuncId) (v : AV) (args : List AV) (dst : Option Nat) (chk : List (Nat × AO)) (l : List AOp) (st : St) : Option St :=
  match o with
  | some f => putX cfg call (call f (v :: args) st.O st.S) dst chk l st
  | none => none
def invkX (x : AV) (m : String) (args : List AV) (dst : Option Nat) (chk : List (Nat × AO)) (l : List AOp) (st : St) : Option St :=
  match x with
  | .iface t v => invkXM cfg call (cfg.meth t m) v args dst chk l st
  | _ => none
theorem r_invkX (st : St) (x : Opd) (m : String) (args : List Opd) (c : Nat × AO) (chk : List (Nat × AO)) : execOps cfg call (⟨dst, none, .invk x m args, c :: chk⟩ :: l) st = invkX cfg call (ev st.env x) m (args.map (ev st.env)) dst (c :: chk) l st := by
  simp only [execOps, wanted, opx, AO.isCall, if_true, callee, invkX]
  cases ev st.env x <;> (try rfl)
  rename_i t v
  simp only [invkXM]
  cases cfg.meth t m with
  | none => rfl
  | some f =>
    simp only [Option.map_some]
    cases call f (v :: args.map (ev st.env)) st.O st.S with
    | none => rfl
    | some p => obtain ⟨r, O, S⟩ := p; simp [putX]
theorem invX_if (t : TypeId) (v : AV) (m : String) (args : List AV) (c : List (Nat × AO)) (st : St) : invkX cfg call (.iface t v) m args dst c l st = invkXM cfg call (cfg.meth t m) v args dst c l st := rfl
theorem invX_some (f : FuncId) (v : AV) (args : List AV) (c : List (Nat × AO)) (st : St) : invkXM cfg call (some f) v args dst c l st = putX cfg call (call f (v :: args) st.O st.S) dst c l st := rfl
end

def mxS (isMax : Bool) (x y : AV) : Option AV :=
  match x, y with
  | .int k a, .int k' b => if k = k' then some (.int k (if isMax then (if b > a then b else a) else (if b < a then b else a))) else none
  | _, _ => none
theorem mx_1 (isMax : Bool) (le : List AV) (v : AV) (x : Opd) : mxC isMax le v [x] = mxS isMax v (ev le x) := by
  simp only [mxC, List.foldl_cons, List.foldl_nil, mxStep, mxS]
  cases v <;> cases ev le x <;> rfl
theorem mx_max1 {k : IntKind} {a b : Int} (h : a < b) : mxS true (.int k a) (.int k b) = some (.int k b) := by simp [mxS, h]
theorem mx_max2 {k : IntKind} {a b : Int} (h : b ≤ a) : mxS true (.int k a) (.int k b) = some (.int k a) := by
  have : ¬ b > a := by omega
  simp [mxS, this]
theorem mx_min1 {k : IntKind} {a b : Int} (h : b < a) : mxS false (.int k a) (.int k b) = some (.int k b) := by simp [mxS, h]
theorem mx_min2 {k : IntKind} {a b : Int} (h : a ≤ b) : mxS false (.int k a) (.int k b) = some (.int k a) := by
  have : ¬ b < a := by omega
  simp [mxS, this]

/-! Loops, step by step -/
def loopK (body : St → Option (Ex × St)) (M : Nat) (r : Option (Ex × St)) : Option (Ex × St) :=
  match r with
  | some (.normal, st') => loopN body [] M st'
  | r => r
theorem loop_unf (body : St → Option (Ex × St)) (M : Nat) (st : St) : loopN body [] (M + 1) st = loopK body M (body st) := by
  simp only [loopN, keep, loopK]
  cases body st with
  | none => rfl
  | some p => obtain ⟨e, st'⟩ := p; cases e <;> rfl
theorem loopK_N (body : St → Option (Ex × St)) (M : Nat) (st : St) : loopK body M (some (.normal, st)) = loopN body [] M st := rfl
theorem loopK_E (body : St → Option (Ex × St)) (M : Nat) (st : St) (i : Nat) : loopK body M (some (.exit i, st)) = some (.exit i, st) := rfl
theorem loopK_R (body : St → Option (Ex × St)) (M : Nat) (st : St) : loopK body M (some (.ret, st)) = some (.ret, st) := rfl

theorem eqb_same (b : Bool) : eqbC true (.bool b) (.bool b) = some (.bool false) := by simp [eqbC]
theorem eqb_same2 (b : Bool) : eqbC false (.bool b) (.bool b) = some (.bool true) := by simp [eqbC]

def orN (o : Option ABlk) (k n : Nat) (b : ABlk) : Option ABlk :=
  match o with
  | some c => some c
  | none => if k = n then some b else none
theorem getA (O : Mo) (b : ABlk) (k : Nat) : (O ++ [b])[k]? = orN O[k]? k O.length b := by
  rcases Nat.lt_or_ge k O.length with h | h
  · rw [List.getElem?_append_left h, List.getElem?_eq_getElem h]; rfl
  · rw [List.getElem?_append_right h, List.getElem?_eq_none h]
    simp only [orN]
    by_cases e : k = O.length
    · subst e; simp
    · rw [if_neg e]
      have : k - O.length ≠ 0 := by omega
      obtain ⟨m, hm⟩ := Nat.exists_eq_succ_of_ne_zero this
      simp [hm]
theorem orN_some (c : ABlk) (k n : Nat) (b : ABlk) : orN (some c) k n b = some c := rfl
theorem orN_self (n : Nat) (b : ABlk) : orN none n n b = some b := by simp [orN]
theorem get_len (O : Mo) : O[O.length]? = none := by simp
theorem app_set (O : Mo) (b c : ABlk) : (O ++ [b]).set O.length c = O ++ [c] := by
  rw [List.set_append_right _ _ (Nat.le_refl _)]; simp
def orS (o : Option ABlk) (b : ABlk) : Option ABlk :=
  match o with
  | some _ => some b
  | none => none
theorem getS_self (O : Mo) (b : ABlk) (k : Nat) : (O.set k b)[k]? = orS O[k]? b := by
  rcases Nat.lt_or_ge k O.length with h | h
  · simp [h, orS]
  · rw [List.getElem?_eq_none (by simpa using h), List.getElem?_eq_none h]; rfl
theorem orS_some (c b : ABlk) : orS (some c) b = some b := rfl
theorem set_set' (O : Mo) (b c : ABlk) (k : Nat) : (O.set k b).set k c = O.set k c := List.set_set ..
theorem fin_skip (own : Bool) (n : Nat) (res : List RV) (B : AC) (r : Option (Ex × St)) : fin own ⟨n, res, B⟩ r = fin own ⟨n, res, .skip⟩ r := rfl
theorem enter5 (nt : Nat) (rs : List RV) (bd : AC) (a b c d e : AV) (O : Mo) (S : Ms) (h : 5 ≤ nt) : enter ⟨nt, rs, bd⟩ [a, b, c, d, e] O S = ⟨leOf nt (upd (upd (upd (upd (upd env0 0 a) 1 b) 2 c) 3 d) 4 e), O, S ++ [[]]⟩ := by
  rw [enter_eq _ _ _ _ (by simpa using h)]; congr 2; funext i
  match i with | 0 | 1 | 2 | 3 | 4 => rfl | i + 5 => simp [envOf, upd, env0]
/-- Rules. -/
def RXa := And.intro @enter5 <| And.intro @gm_0 <| And.intro @tabC_hit <| And.intro @tabC_miss <| And.intro @spC_some <| And.intro @m_stO <| And.intro @go_int <| And.intro @go_bool <| And.intro @go_str <| And.intro @go_ref <| And.intro @go_bref <| And.intro @go_iface <| And.intro @go_nilp <| And.intro @go_nili <| And.intro @go_nils <| And.intro @low_int <| And.intro @low_bool <| And.intro @low_str <| And.intro @low_ref <| And.intro @low_bref <| And.intro @low_iface' <| And.intro @low_nilp' <| And.intro @low_nili' <| And.intro @low_nils <| And.intro @wr_u64 <| @g_stOA
/-- Rules. -/
def RXb := And.intro @g_boxO <| And.intro @low1_iface <| And.intro @low1_nilf <| And.intro @low1_nilm <| And.intro @low1_emp <| And.intro @low1_map <| And.intro @snap1_ref0 <| And.intro @snap2_ref0 <| And.intro @snap_ref0 <| And.intro @snap1_if0 <| And.intro @snap2_if0 <| And.intro @snap_if0 <| And.intro @snap1_br0 <| And.intro @snap2_br0 <| And.intro @snap_br0 <| And.intro @snap1_nilp' <| And.intro @snap2_nilp' <| And.intro @snap_nilp' <| And.intro @snap1_nili' <| And.intro @snap2_nili' <| And.intro @snap_nili' <| And.intro @snap_tupE <| And.intro @m_newDo <| And.intro @m_newKo <| And.intro @m_newOo <| @m_newSo
/-- Rules. -/
def RXc := And.intro @m_stOB <| And.intro @stOB_int <| And.intro @m_aldBS <| And.intro @m_take1 <| And.intro @r_invk <| And.intro @inv_if <| And.intro @inv_some <| And.intro @r_invkX <| And.intro @invX_if <| And.intro @invX_some <| And.intro @mx_1 <| And.intro @mx_max1 <| And.intro @mx_max2 <| And.intro @mx_min1 <| And.intro @mx_min2 <| And.intro @eqb_same <| And.intro @eqb_same2 <| And.intro @getA <| And.intro @orN_some <| And.intro @orN_self <| And.intro @get_len <| And.intro @app_set <| And.intro @getS_self <| And.intro @orS_some <| @set_set'
/-- Rules. -/
def RRt := And.intro @if_true.{1} <| And.intro @if_false.{1} <| And.intro @ite_true.{1} <| And.intro @if_pos.{1} <| And.intro @if_neg.{1} <| And.intro @List.length_cons.{0} <| And.intro @List.length_nil.{0} <| And.intro @List.nil_append.{0} <| And.intro @List.cons_append.{0} <| And.intro @List.set_cons_zero.{0} <| And.intro @List.set_cons_succ.{0} <| And.intro @List.drop_zero.{0} <| And.intro @List.drop_nil.{0} <| And.intro @List.drop_succ_cons.{0} <| And.intro @List.getElem?_drop.{0} <| And.intro @List.append_nil.{0} <| And.intro @List.length_set.{0} <| And.intro @List.take_succ_cons.{0} <| And.intro @List.take_zero.{0} <| And.intro @Option.getD_some.{0} <| And.intro @Option.map_some.{0, 0} <| And.intro @List.map_cons.{0, 0} <| And.intro @List.map_nil.{0, 0} <| And.intro @dec_T <| And.intro @dec_F <| And.intro @Bool.not_true <| And.intro @Bool.not_false <| And.intro @Bool.and_true <| And.intro @Nat.zero_add <| And.intro @Nat.add_zero <| And.intro @Nat.mul_one <| And.intro @Int.toNat_natCast <| And.intro @decide_true <| And.intro @Bool.and_self <| And.intro @Bool.true_and <| And.intro @get4 <| And.intro @get5 <| And.intro @get6 <| And.intro @get7 <| And.intro @get8 <| And.intro @get9 <| And.intro @get10 <| And.intro @gA_T <| And.intro @and_self <| And.intro @and_true <| And.intro @true_and <| @Bool.false_eq_true
end Den
