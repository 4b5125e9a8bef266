/- The reading that takes some calls by what they come to. -/
import Derived.Test.YtajcniofkpifaaaMFbA
namespace Den
open Go Go.Proofs
set_option maxRecDepth 1000000
namespace Fb
def beqE : List (AV × AV) → List (AV × AV) → Bool
  | [], [] => true
  | a :: x, b :: y => bif AV.beqs [a.1, a.2] [b.1, b.2] then beqE x y else false
  | _, _ => false
theorem beqE_eq : ∀ (a b : List (AV × AV)), beqE a b = true → a = b
  | [], [], _ => rfl
  | (p, q) :: x, (p', q') :: y, h => by
    simp only [beqE] at h
    cases hb : AV.beqs [p, q] [p', q'] with
    | true =>
      rw [hb] at h
      have e := AV.beqs_eq _ _ hb
      simp only [List.cons.injEq, and_true] at e
      rw [e.1, e.2, beqE_eq x y h]
    | false => rw [hb] at h; cases h
  | [], _ :: _, h | _ :: _, [], h => by cases h
def beqB : ABlk → ABlk → Bool
  | .arr a, .arr b => AV.beqs a b
  | .buf n a, .buf m b => Nat.beq n m && AV.beqs a b
  | .map a, .map b => beqE a b
  | _, _ => false
theorem beqB_eq : ∀ (a b : ABlk), beqB a b = true → a = b
  | .arr a, .arr b, h => by rw [AV.beqs_eq a b h]
  | .buf n a, .buf m b, h => by
    simp only [beqB, Bool.and_eq_true] at h
    rw [Nat.eq_of_beq_eq_true h.1, AV.beqs_eq a b h.2]
  | .map a, .map b, h => by rw [beqE_eq a b h]
  | .arr _, .buf _ _, h | .arr _, .map _, h | .buf _ _, .arr _, h | .buf _ _, .map _, h | .map _, .arr _, h | .map _, .buf _ _, h => by cases h
def beqO : Mo → Mo → Bool
  | [], [] => true
  | a :: x, b :: y => bif beqB a b then beqO x y else false
  | _, _ => false
theorem beqO_eq : ∀ (a b : Mo), beqO a b = true → a = b
  | [], [], _ => rfl
  | a :: x, b :: y, h => by
    simp only [beqO] at h
    cases hb : beqB a b with
    | true => rw [hb] at h; rw [beqB_eq a b hb, beqO_eq x y h]
    | false => rw [hb] at h; cases h
  | [], _ :: _, h | _ :: _, [], h => by cases h
def beqS : Ms → Ms → Bool
  | [], [] => true
  | a :: x, b :: y => bif beqO a b then beqS x y else false
  | _, _ => false
theorem beqS_eq : ∀ (a b : Ms), beqS a b = true → a = b
  | [], [], _ => rfl
  | a :: x, b :: y, h => by
    simp only [beqS] at h
    cases hb : beqO a b with
    | true => rw [hb] at h; rw [beqO_eq a b hb, beqS_eq x y h]
    | false => rw [hb] at h; cases h
  | [], _ :: _, h | _ :: _, [], h => by cases h
def one (a0 : List AV) (o0 : Mo) (s0 : Ms) (r : AV) (o1 : Mo) (s1 : Ms) (args : List AV) (O : Mo) (S : Ms) : Ans :=
  bif AV.beqs a0 args then bif beqO o0 O then bif beqS s0 S then some (r, o1, s1) else none else none else none
theorem one_ok {P : Program} {cfg : Cfg} (hcfg : CfgOk P cfg) {fp : FPr} (hfp : FpOk cfg fp) {n : Nat} {f : FuncId} {a0 : List AV} {o0 : Mo} {s0 : Ms} {r : AV} {o1 : Mo} {s1 : Ms}
    (h : ∀ k : KV, fden cfg fp n f a0 o0 s0 k = k r o1 s1) {args O S r' O' S'} (hp : one a0 o0 s0 r o1 s1 args O S = some (r', O', S')) : CallOk P f args O S r' O' S' := by
  unfold one at hp
  cases h1 : AV.beqs a0 args with
  | false => rw [h1] at hp; cases hp
  | true =>
    cases h2 : beqO o0 O with
    | false => rw [h1, h2] at hp; cases hp
    | true =>
      cases h3 : beqS s0 S with
      | false => rw [h1, h2, h3] at hp; cases hp
      | true =>
        rw [h1, h2, h3] at hp
        cases hp
        rw [← AV.beqs_eq _ _ h1, ← beqO_eq _ _ h2, ← beqS_eq _ _ h3]
        classical
        have hk := h (fun v O S => decide (v = r ∧ O = o1 ∧ S = s1))
        have hk' : fden cfg fp n f a0 o0 s0 (fun v O S => decide (v = r ∧ O = o1 ∧ S = s1)) = true := by rw [hk]; simp
        obtain ⟨v, O1, S1, hc, hv⟩ := fden_ok hcfg hfp hk'
        simp only [decide_eq_true_eq] at hv
        obtain ⟨rfl, rfl, rfl⟩ := hv
        exact hc
def memo10 (args : List AV) (O : Mo) (S : Ms) : Ans := bif Nat.beq O.length 23 then one Fb3.a0 Fb3.o0 Fb3.s0 Fb3.rr Fb3.o1 Fb3.s1 args O S else none
theorem memo10_ok {args O S r O' S'} (h : memo10 args O S = some (r, O', S')) : CallOk Try.prog 10 args O S r O' S' := by
  unfold memo10 at h
  cases h3 : Nat.beq O.length 23 with
  | true => rw [h3] at h; exact one_ok Fa.cfg_ok (fun _ _ h => by cases h) Fb3.run h
  | false =>
  rw [h3] at h; simp only [cond_false] at h
  cases h
def memo11 (args : List AV) (O : Mo) (S : Ms) : Ans := bif Nat.beq O.length 20 then one Fb2.a0 Fb2.o0 Fb2.s0 Fb2.rr Fb2.o1 Fb2.s1 args O S else none
theorem memo11_ok {args O S r O' S'} (h : memo11 args O S = some (r, O', S')) : CallOk Try.prog 11 args O S r O' S' := by
  unfold memo11 at h
  cases h2 : Nat.beq O.length 20 with
  | true => rw [h2] at h; exact one_ok Fa.cfg_ok (fun _ _ h => by cases h) Fb2.run h
  | false =>
  rw [h2] at h; simp only [cond_false] at h
  cases h
/-- A call by what it comes to, else as it is. -/
noncomputable def pr (m : List AV → Mo → Ms → Ans) (f : FuncId) (args : List AV) (O : Mo) (S : Ms) : Ans := match m args O S with | some x => some x | none => den Fa.cfg 1000000 f args O S
theorem pr_ok {m : List AV → Mo → Ms → Ans} {f : FuncId} (hm : ∀ args O S r O' S', m args O S = some (r, O', S') → CallOk Try.prog f args O S r O' S') {args O S r O' S'} (h : pr m f args O S = some (r, O', S')) : CallOk Try.prog f args O S r O' S' := by
  unfold pr at h
  split at h
  · rename_i x hx
    cases h
    exact hm _ _ _ _ _ _ hx
  · exact sound Fa.cfg_ok h
noncomputable def qk (m : List AV → Mo → Ms → Ans) (f : FuncId) (args : List AV) (O : Mo) (S : Ms) (k : KV) : Bool :=
  @Option.rec (AV × Mo × Ms) (fun _ => List AV → Mo → Ms → KV → Bool) (fun args O S k => fden Fa.cfg noFp 1000000 f args O S k) (fun p _ _ _ k => ansV (some p) k) (m args O S) args O S k
theorem qk_ok {m : List AV → Mo → Ms → Ans} {f : FuncId} {args O S} {k : KV} (h : qk m f args O S k = true) : ∃ v O' S', pr m f args O S = some (v, O', S') ∧ k v O' S' = true := by
  unfold qk at h
  unfold pr
  cases hm : m args O S with
  | none =>
    rw [hm] at h
    obtain ⟨v, O', S', e, hk⟩ := fden_as Fa.cfg (fun _ _ h => by cases h) 1000000 f args O S k h
    exact ⟨v, O', S', e, hk⟩
  | some p =>
    rw [hm] at h
    obtain ⟨v, O', S', e, hk⟩ := ansV_ok (o := some p) h
    exact ⟨v, O', S', e, hk⟩
noncomputable def prim (f : FuncId) : Option (List AV → List ABlk → List (List ABlk) → Ans) := bif Nat.beq f 10 then some (pr memo10 10) else bif Nat.beq f 11 then some (pr memo11 11) else Fa.cfg.prim f
theorem prim_ok : ∀ f p, prim f = some p → ∀ args O S r O' S', p args O S = some (r, O', S') → CallOk Try.prog f args O S r O' S' := by
  intro f p h
  unfold prim at h
  cases h10 : Nat.beq f 10 with
  | true => rw [h10] at h; cases h; rw [Nat.eq_of_beq_eq_true h10]; exact fun _ _ _ _ _ _ hp => pr_ok (fun _ _ _ _ _ _ h => memo10_ok h) hp
  | false =>
  rw [h10] at h; simp only [cond_false] at h
  cases h11 : Nat.beq f 11 with
  | true => rw [h11] at h; cases h; rw [Nat.eq_of_beq_eq_true h11]; exact fun _ _ _ _ _ _ hp => pr_ok (fun _ _ _ _ _ _ h => memo11_ok h) hp
  | false =>
  rw [h11] at h; simp only [cond_false] at h
  exact Fa.cfg_ok.prim f p h
noncomputable def fp : FPr := fun f => bif Nat.beq f 10 then some (qk memo10 10) else bif Nat.beq f 11 then some (qk memo11 11) else none
noncomputable def cfg : Cfg := { Fa.cfg with prim := prim }
theorem cfg_ok : CfgOk Try.prog cfg where
  mixed := Fa.cfg_ok.mixed
  code := Fa.cfg_ok.code
  prim := prim_ok
  meth := Fa.cfg_ok.meth
theorem fp_ok : FpOk cfg fp := by
  intro f g h
  unfold fp at h
  cases h10 : Nat.beq f 10 with
  | true =>
    rw [h10] at h; cases h
    exact ⟨pr memo10 10, by show prim f = _; rw [Nat.eq_of_beq_eq_true h10]; rfl, fun _ _ _ _ hq => qk_ok hq⟩
  | false =>
  rw [h10] at h; simp only [cond_false] at h
  cases h11 : Nat.beq f 11 with
  | true =>
    rw [h11] at h; cases h
    exact ⟨pr memo11 11, by show prim f = _; rw [Nat.eq_of_beq_eq_true h11]; rfl, fun _ _ _ _ hq => qk_ok hq⟩
  | false =>
  rw [h11] at h; simp only [cond_false] at h
  cases h
end Fb
end Den
