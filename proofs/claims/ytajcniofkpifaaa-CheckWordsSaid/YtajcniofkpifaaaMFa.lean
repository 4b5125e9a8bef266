/- The reading that takes some calls by what they come to. -/
import Derived.Test.YtajcniofkpifaaaMFaA
import Derived.Test.YtajcniofkpifaaaMFaB
import Derived.Test.YtajcniofkpifaaaMFaC
namespace Den
open Go Go.Proofs
set_option maxRecDepth 1000000
namespace Fa
def beqE : List (AV × AV) → List (AV × AV) → Bool
  | [], [] => true
  | a :: x, b :: y => bif AV.beqs [a.1, a.2] [b.1, b.2] then beqE x y else false
  | _, _ => false
theorem beqE_eq : ∀ (a b : List (AV × AV)), beqE a b = true → a = b
  | [], [], _ => rfl
  | (p, q) :: x, (p', q') :: y, h => by
    simp only [beqE] at h
    cases hb : AV.beqs [p, q] [p', q'] with
    | true =>
      rw [hb] at h
      have e := AV.beqs_eq _ _ hb
      simp only [List.cons.injEq, and_true] at e
      rw [e.1, e.2, beqE_eq x y h]
    | false => rw [hb] at h; cases h
  | [], _ :: _, h | _ :: _, [], h => by cases h
def beqB : ABlk → ABlk → Bool
  | .arr a, .arr b => AV.beqs a b
  | .buf n a, .buf m b => Nat.beq n m && AV.beqs a b
  | .map a, .map b => beqE a b
  | _, _ => false
theorem beqB_eq : ∀ (a b : ABlk), beqB a b = true → a = b
  | .arr a, .arr b, h => by rw [AV.beqs_eq a b h]
  | .buf n a, .buf m b, h => by
    simp only [beqB, Bool.and_eq_true] at h
    rw [Nat.eq_of_beq_eq_true h.1, AV.beqs_eq a b h.2]
  | .map a, .map b, h => by rw [beqE_eq a b h]
  | .arr _, .buf _ _, h | .arr _, .map _, h | .buf _ _, .arr _, h | .buf _ _, .map _, h | .map _, .arr _, h | .map _, .buf _ _, h => by cases h
def beqO : Mo → Mo → Bool
  | [], [] => true
  | a :: x, b :: y => bif beqB a b then beqO x y else false
  | _, _ => false
theorem beqO_eq : ∀ (a b : Mo), beqO a b = true → a = b
  | [], [], _ => rfl
  | a :: x, b :: y, h => by
    simp only [beqO] at h
    cases hb : beqB a b with
    | true => rw [hb] at h; rw [beqB_eq a b hb, beqO_eq x y h]
    | false => rw [hb] at h; cases h
  | [], _ :: _, h | _ :: _, [], h => by cases h
def beqS : Ms → Ms → Bool
  | [], [] => true
  | a :: x, b :: y => bif beqO a b then beqS x y else false
  | _, _ => false
theorem beqS_eq : ∀ (a b : Ms), beqS a b = true → a = b
  | [], [], _ => rfl
  | a :: x, b :: y, h => by
    simp only [beqS] at h
    cases hb : beqO a b with
    | true => rw [hb] at h; rw [beqO_eq a b hb, beqS_eq x y h]
    | false => rw [hb] at h; cases h
  | [], _ :: _, h | _ :: _, [], h => by cases h
def one (a0 : List AV) (o0 : Mo) (s0 : Ms) (r : AV) (o1 : Mo) (s1 : Ms) (args : List AV) (O : Mo) (S : Ms) : Ans :=
  bif AV.beqs a0 args then bif beqO o0 O then bif beqS s0 S then some (r, o1, s1) else none else none else none
theorem one_ok {P : Program} {cfg : Cfg} (hcfg : CfgOk P cfg) {fp : FPr} (hfp : FpOk cfg fp) {n : Nat} {f : FuncId} {a0 : List AV} {o0 : Mo} {s0 : Ms} {r : AV} {o1 : Mo} {s1 : Ms}
    (h : ∀ k : KV, fden cfg fp n f a0 o0 s0 k = k r o1 s1) {args O S r' O' S'} (hp : one a0 o0 s0 r o1 s1 args O S = some (r', O', S')) : CallOk P f args O S r' O' S' := by
  unfold one at hp
  cases h1 : AV.beqs a0 args with
  | false => rw [h1] at hp; cases hp
  | true =>
    cases h2 : beqO o0 O with
    | false => rw [h1, h2] at hp; cases hp
    | true =>
      cases h3 : beqS s0 S with
      | false => rw [h1, h2, h3] at hp; cases hp
      | true =>
        rw [h1, h2, h3] at hp
        cases hp
        rw [← AV.beqs_eq _ _ h1, ← beqO_eq _ _ h2, ← beqS_eq _ _ h3]
        classical
        have hk := h (fun v O S => decide (v = r ∧ O = o1 ∧ S = s1))
        have hk' : fden cfg fp n f a0 o0 s0 (fun v O S => decide (v = r ∧ O = o1 ∧ S = s1)) = true := by rw [hk]; simp
        obtain ⟨v, O1, S1, hc, hv⟩ := fden_ok hcfg hfp hk'
        simp only [decide_eq_true_eq] at hv
        obtain ⟨rfl, rfl, rfl⟩ := hv
        exact hc
def memo15 (args : List AV) (O : Mo) (S : Ms) : Ans := bif Nat.beq O.length 0 then one Fa0.a0 Fa0.o0 Fa0.s0 Fa0.rr Fa0.o1 Fa0.s1 args O S else bif Nat.beq O.length 29 then one Fa2.a0 Fa2.o0 Fa2.s0 Fa2.rr Fa2.o1 Fa2.s1 args O S else bif Nat.beq O.length 43 then one Fa3.a0 Fa3.o0 Fa3.s0 Fa3.rr Fa3.o1 Fa3.s1 args O S else bif Nat.beq O.length 48 then one Fa4.a0 Fa4.o0 Fa4.s0 Fa4.rr Fa4.o1 Fa4.s1 args O S else none
theorem memo15_ok {args O S r O' S'} (h : memo15 args O S = some (r, O', S')) : CallOk Try.prog 15 args O S r O' S' := by
  unfold memo15 at h
  cases h0 : Nat.beq O.length 0 with
  | true => rw [h0] at h; exact one_ok cfgS_ok noFpS_ok Fa0.run h
  | false =>
  rw [h0] at h; simp only [cond_false] at h
  cases h2 : Nat.beq O.length 29 with
  | true => rw [h2] at h; exact one_ok cfgS_ok noFpS_ok Fa2.run h
  | false =>
  rw [h2] at h; simp only [cond_false] at h
  cases h3 : Nat.beq O.length 43 with
  | true => rw [h3] at h; exact one_ok cfgS_ok noFpS_ok Fa3.run h
  | false =>
  rw [h3] at h; simp only [cond_false] at h
  cases h4 : Nat.beq O.length 48 with
  | true => rw [h4] at h; exact one_ok cfgS_ok noFpS_ok Fa4.run h
  | false =>
  rw [h4] at h; simp only [cond_false] at h
  cases h
def memo16 (args : List AV) (O : Mo) (S : Ms) : Ans := bif Nat.beq O.length 5 then one Fa1.a0 Fa1.o0 Fa1.s0 Fa1.rr Fa1.o1 Fa1.s1 args O S else bif Nat.beq O.length 53 then one Fa5.a0 Fa5.o0 Fa5.s0 Fa5.rr Fa5.o1 Fa5.s1 args O S else bif Nat.beq O.length 68 then one Fa6.a0 Fa6.o0 Fa6.s0 Fa6.rr Fa6.o1 Fa6.s1 args O S else bif Nat.beq O.length 83 then one Fa7.a0 Fa7.o0 Fa7.s0 Fa7.rr Fa7.o1 Fa7.s1 args O S else bif Nat.beq O.length 113 then one Fa9.a0 Fa9.o0 Fa9.s0 Fa9.rr Fa9.o1 Fa9.s1 args O S else bif Nat.beq O.length 128 then one Fa10.a0 Fa10.o0 Fa10.s0 Fa10.rr Fa10.o1 Fa10.s1 args O S else none
theorem memo16_ok {args O S r O' S'} (h : memo16 args O S = some (r, O', S')) : CallOk Try.prog 16 args O S r O' S' := by
  unfold memo16 at h
  cases h1 : Nat.beq O.length 5 with
  | true => rw [h1] at h; exact one_ok cfgS_ok noFpS_ok Fa1.run h
  | false =>
  rw [h1] at h; simp only [cond_false] at h
  cases h5 : Nat.beq O.length 53 with
  | true => rw [h5] at h; exact one_ok cfgS_ok noFpS_ok Fa5.run h
  | false =>
  rw [h5] at h; simp only [cond_false] at h
  cases h6 : Nat.beq O.length 68 with
  | true => rw [h6] at h; exact one_ok cfgS_ok noFpS_ok Fa6.run h
  | false =>
  rw [h6] at h; simp only [cond_false] at h
  cases h7 : Nat.beq O.length 83 with
  | true => rw [h7] at h; exact one_ok cfgS_ok noFpS_ok Fa7.run h
  | false =>
  rw [h7] at h; simp only [cond_false] at h
  cases h9 : Nat.beq O.length 113 with
  | true => rw [h9] at h; exact one_ok cfgS_ok noFpS_ok Fa9.run h
  | false =>
  rw [h9] at h; simp only [cond_false] at h
  cases h10 : Nat.beq O.length 128 with
  | true => rw [h10] at h; exact one_ok cfgS_ok noFpS_ok Fa10.run h
  | false =>
  rw [h10] at h; simp only [cond_false] at h
  cases h
/-- A call by what it comes to, else as it is. -/
noncomputable def pr (m : List AV → Mo → Ms → Ans) (f : FuncId) (args : List AV) (O : Mo) (S : Ms) : Ans := match m args O S with | some x => some x | none => den cfgS 1000000 f args O S
theorem pr_ok {m : List AV → Mo → Ms → Ans} {f : FuncId} (hm : ∀ args O S r O' S', m args O S = some (r, O', S') → CallOk Try.prog f args O S r O' S') {args O S r O' S'} (h : pr m f args O S = some (r, O', S')) : CallOk Try.prog f args O S r O' S' := by
  unfold pr at h
  split at h
  · rename_i x hx
    cases h
    exact hm _ _ _ _ _ _ hx
  · exact sound cfgS_ok h
noncomputable def qk (m : List AV → Mo → Ms → Ans) (f : FuncId) (args : List AV) (O : Mo) (S : Ms) (k : KV) : Bool :=
  @Option.rec (AV × Mo × Ms) (fun _ => List AV → Mo → Ms → KV → Bool) (fun args O S k => fden cfgS noFp 1000000 f args O S k) (fun p _ _ _ k => ansV (some p) k) (m args O S) args O S k
theorem qk_ok {m : List AV → Mo → Ms → Ans} {f : FuncId} {args O S} {k : KV} (h : qk m f args O S k = true) : ∃ v O' S', pr m f args O S = some (v, O', S') ∧ k v O' S' = true := by
  unfold qk at h
  unfold pr
  cases hm : m args O S with
  | none =>
    rw [hm] at h
    obtain ⟨v, O', S', e, hk⟩ := fden_as cfgS noFpS_ok 1000000 f args O S k h
    exact ⟨v, O', S', e, hk⟩
  | some p =>
    rw [hm] at h
    obtain ⟨v, O', S', e, hk⟩ := ansV_ok (o := some p) h
    exact ⟨v, O', S', e, hk⟩
noncomputable def prim (f : FuncId) : Option (List AV → List ABlk → List (List ABlk) → Ans) := bif Nat.beq f 15 then some (pr memo15 15) else bif Nat.beq f 16 then some (pr memo16 16) else cfgS.prim f
theorem prim_ok : ∀ f p, prim f = some p → ∀ args O S r O' S', p args O S = some (r, O', S') → CallOk Try.prog f args O S r O' S' := by
  intro f p h
  unfold prim at h
  cases h15 : Nat.beq f 15 with
  | true => rw [h15] at h; cases h; rw [Nat.eq_of_beq_eq_true h15]; exact fun _ _ _ _ _ _ hp => pr_ok (fun _ _ _ _ _ _ h => memo15_ok h) hp
  | false =>
  rw [h15] at h; simp only [cond_false] at h
  cases h16 : Nat.beq f 16 with
  | true => rw [h16] at h; cases h; rw [Nat.eq_of_beq_eq_true h16]; exact fun _ _ _ _ _ _ hp => pr_ok (fun _ _ _ _ _ _ h => memo16_ok h) hp
  | false =>
  rw [h16] at h; simp only [cond_false] at h
  exact cfgS_ok.prim f p h
noncomputable def fp : FPr := fun f => bif Nat.beq f 15 then some (qk memo15 15) else bif Nat.beq f 16 then some (qk memo16 16) else none
noncomputable def cfg : Cfg := { cfgS with prim := prim }
theorem cfg_ok : CfgOk Try.prog cfg where
  mixed := cfgS_ok.mixed
  code := cfgS_ok.code
  prim := prim_ok
  meth := cfgS_ok.meth
theorem fp_ok : FpOk cfg fp := by
  intro f g h
  unfold fp at h
  cases h15 : Nat.beq f 15 with
  | true =>
    rw [h15] at h; cases h
    exact ⟨pr memo15 15, by show prim f = _; rw [Nat.eq_of_beq_eq_true h15]; rfl, fun _ _ _ _ hq => qk_ok hq⟩
  | false =>
  rw [h15] at h; simp only [cond_false] at h
  cases h16 : Nat.beq f 16 with
  | true =>
    rw [h16] at h; cases h
    exact ⟨pr memo16 16, by show prim f = _; rw [Nat.eq_of_beq_eq_true h16]; rfl, fun _ _ _ _ hq => qk_ok hq⟩
  | false =>
  rw [h16] at h; simp only [cond_false] at h
  cases h
end Fa
end Den
