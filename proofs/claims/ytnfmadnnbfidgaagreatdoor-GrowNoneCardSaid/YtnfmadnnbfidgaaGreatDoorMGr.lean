/- The reading that takes some calls by what they come to. -/
import Derived.Test.YtnfmadnnbfidgaaGreatDoorMGr0
import Derived.Test.YtnfmadnnbfidgaaGreatDoorMGr1
import Derived.Test.YtnfmadnnbfidgaaGreatDoorMGr12
import Derived.Test.YtnfmadnnbfidgaaGreatDoorMGr14
namespace Den
open Go Go.Proofs
set_option maxRecDepth 1000000
namespace Gr
def beqB : ABlk → ABlk → Bool
  | .arr a, .arr b => AV.beqs a b
  | .buf n a, .buf m b => Nat.beq n m && AV.beqs a b
  | _, _ => false
theorem beqB_eq : ∀ (a b : ABlk), beqB a b = true → a = b
  | .arr a, .arr b, h => by rw [AV.beqs_eq a b h]
  | .buf n a, .buf m b, h => by
    simp only [beqB, Bool.and_eq_true] at h
    rw [Nat.eq_of_beq_eq_true h.1, AV.beqs_eq a b h.2]
  | .arr _, .buf _ _, h | .arr _, .map _, h | .buf _ _, .arr _, h | .buf _ _, .map _, h | .map _, .arr _, h | .map _, .buf _ _, h | .map _, .map _, h => by cases h
def beqO : Mo → Mo → Bool
  | [], [] => true
  | a :: x, b :: y => bif beqB a b then beqO x y else false
  | _, _ => false
theorem beqO_eq : ∀ (a b : Mo), beqO a b = true → a = b
  | [], [], _ => rfl
  | a :: x, b :: y, h => by
    simp only [beqO] at h
    cases hb : beqB a b with
    | true => rw [hb] at h; rw [beqB_eq a b hb, beqO_eq x y h]
    | false => rw [hb] at h; cases h
  | [], _ :: _, h | _ :: _, [], h => by cases h
def beqS : Ms → Ms → Bool
  | [], [] => true
  | a :: x, b :: y => bif beqO a b then beqS x y else false
  | _, _ => false
theorem beqS_eq : ∀ (a b : Ms), beqS a b = true → a = b
  | [], [], _ => rfl
  | a :: x, b :: y, h => by
    simp only [beqS] at h
    cases hb : beqO a b with
    | true => rw [hb] at h; rw [beqO_eq a b hb, beqS_eq x y h]
    | false => rw [hb] at h; cases h
  | [], _ :: _, h | _ :: _, [], h => by cases h
def one (a0 : List AV) (o0 : Mo) (s0 : Ms) (r : AV) (o1 : Mo) (s1 : Ms) (args : List AV) (O : Mo) (S : Ms) : Ans :=
  bif AV.beqs a0 args then bif beqO o0 O then bif beqS s0 S then some (r, o1, s1) else none else none else none
theorem one_ok {P : Program} {cfg : Cfg} (hcfg : CfgOk P cfg) {fp : FPr} (hfp : FpOk cfg fp) {n : Nat} {f : FuncId} {a0 : List AV} {o0 : Mo} {s0 : Ms} {r : AV} {o1 : Mo} {s1 : Ms}
    (h : ∀ k : KV, fden cfg fp n f a0 o0 s0 k = k r o1 s1) {args O S r' O' S'} (hp : one a0 o0 s0 r o1 s1 args O S = some (r', O', S')) : CallOk P f args O S r' O' S' := by
  unfold one at hp
  cases h1 : AV.beqs a0 args with
  | false => rw [h1] at hp; cases hp
  | true =>
    cases h2 : beqO o0 O with
    | false => rw [h1, h2] at hp; cases hp
    | true =>
      cases h3 : beqS s0 S with
      | false => rw [h1, h2, h3] at hp; cases hp
      | true =>
        rw [h1, h2, h3] at hp
        cases hp
        rw [← AV.beqs_eq _ _ h1, ← beqO_eq _ _ h2, ← beqS_eq _ _ h3]
        classical
        have hk := h (fun v O S => decide (v = r ∧ O = o1 ∧ S = s1))
        have hk' : fden cfg fp n f a0 o0 s0 (fun v O S => decide (v = r ∧ O = o1 ∧ S = s1)) = true := by rw [hk]; simp
        obtain ⟨v, O1, S1, hc, hv⟩ := fden_ok hcfg hfp hk'
        simp only [decide_eq_true_eq] at hv
        obtain ⟨rfl, rfl, rfl⟩ := hv
        exact hc
def memo49 (args : List AV) (O : Mo) (S : Ms) : Ans := bif Nat.beq O.length 2 then one Gr0.a0 Gr0.o0 Gr0.s0 Gr0.rr Gr0.o1 Gr0.s1 args O S else bif Nat.beq O.length 9 then one Gr1.a0 Gr1.o0 Gr1.s0 Gr1.rr Gr1.o1 Gr1.s1 args O S else none
theorem memo49_ok {args O S r O' S'} (h : memo49 args O S = some (r, O', S')) : CallOk Tryz.prog 49 args O S r O' S' := by
  unfold memo49 at h
  cases h0 : Nat.beq O.length 2 with
  | true => rw [h0] at h; exact one_ok cfgL_ok noFp_ok Gr0.run h
  | false =>
  rw [h0] at h; simp only [cond_false] at h
  cases h1 : Nat.beq O.length 9 with
  | true => rw [h1] at h; exact one_ok cfgL_ok noFp_ok Gr1.run h
  | false =>
  rw [h1] at h; simp only [cond_false] at h
  cases h
def memo75 (args : List AV) (O : Mo) (S : Ms) : Ans := bif Nat.beq O.length 94 then one Gr12.a0 Gr12.o0 Gr12.s0 Gr12.rr Gr12.o1 Gr12.s1 args O S else bif Nat.beq O.length 221 then one Gr14.a0 Gr14.o0 Gr14.s0 Gr14.rr Gr14.o1 Gr14.s1 args O S else none
theorem memo75_ok {args O S r O' S'} (h : memo75 args O S = some (r, O', S')) : CallOk Tryz.prog 75 args O S r O' S' := by
  unfold memo75 at h
  cases h12 : Nat.beq O.length 94 with
  | true => rw [h12] at h; exact one_ok cfgL_ok noFp_ok Gr12.run h
  | false =>
  rw [h12] at h; simp only [cond_false] at h
  cases h14 : Nat.beq O.length 221 with
  | true => rw [h14] at h; exact one_ok cfgL_ok noFp_ok Gr14.run h
  | false =>
  rw [h14] at h; simp only [cond_false] at h
  cases h
/-- A call by what it comes to, else as it is. -/
noncomputable def pr (m : List AV → Mo → Ms → Ans) (f : FuncId) (args : List AV) (O : Mo) (S : Ms) : Ans := match m args O S with | some x => some x | none => den cfgL 1000000 f args O S
theorem pr_ok {m : List AV → Mo → Ms → Ans} {f : FuncId} (hm : ∀ args O S r O' S', m args O S = some (r, O', S') → CallOk Tryz.prog f args O S r O' S') {args O S r O' S'} (h : pr m f args O S = some (r, O', S')) : CallOk Tryz.prog f args O S r O' S' := by
  unfold pr at h
  split at h
  · rename_i x hx
    cases h
    exact hm _ _ _ _ _ _ hx
  · exact sound cfgL_ok h
noncomputable def qk (m : List AV → Mo → Ms → Ans) (f : FuncId) (args : List AV) (O : Mo) (S : Ms) (k : KV) : Bool :=
  @Option.rec (AV × Mo × Ms) (fun _ => List AV → Mo → Ms → KV → Bool) (fun args O S k => fden cfgL noFp 1000000 f args O S k) (fun p _ _ _ k => ansV (some p) k) (m args O S) args O S k
theorem qk_ok {m : List AV → Mo → Ms → Ans} {f : FuncId} {args O S} {k : KV} (h : qk m f args O S k = true) : ∃ v O' S', pr m f args O S = some (v, O', S') ∧ k v O' S' = true := by
  unfold qk at h
  unfold pr
  cases hm : m args O S with
  | none =>
    rw [hm] at h
    obtain ⟨v, O', S', e, hk⟩ := fden_as cfgL noFp_ok 1000000 f args O S k h
    exact ⟨v, O', S', e, hk⟩
  | some p =>
    rw [hm] at h
    obtain ⟨v, O', S', e, hk⟩ := ansV_ok (o := some p) h
    exact ⟨v, O', S', e, hk⟩
noncomputable def prim (f : FuncId) : Option (List AV → List ABlk → List (List ABlk) → Ans) := bif Nat.beq f 49 then some (pr memo49 49) else bif Nat.beq f 75 then some (pr memo75 75) else cfgL.prim f
theorem prim_ok : ∀ f p, prim f = some p → ∀ args O S r O' S', p args O S = some (r, O', S') → CallOk Tryz.prog f args O S r O' S' := by
  intro f p h
  unfold prim at h
  cases h49 : Nat.beq f 49 with
  | true => rw [h49] at h; cases h; rw [Nat.eq_of_beq_eq_true h49]; exact fun _ _ _ _ _ _ hp => pr_ok (fun _ _ _ _ _ _ h => memo49_ok h) hp
  | false =>
  rw [h49] at h; simp only [cond_false] at h
  cases h75 : Nat.beq f 75 with
  | true => rw [h75] at h; cases h; rw [Nat.eq_of_beq_eq_true h75]; exact fun _ _ _ _ _ _ hp => pr_ok (fun _ _ _ _ _ _ h => memo75_ok h) hp
  | false =>
  rw [h75] at h; simp only [cond_false] at h
  exact cfgL_ok.prim f p h
noncomputable def fp : FPr := fun f => bif Nat.beq f 49 then some (qk memo49 49) else bif Nat.beq f 75 then some (qk memo75 75) else none
noncomputable def cfg : Cfg := { cfgL with prim := prim }
theorem cfg_ok : CfgOk Tryz.prog cfg where
  mixed := cfgL_ok.mixed
  code := cfgL_ok.code
  prim := prim_ok
  meth := cfgL_ok.meth
theorem fp_ok : FpOk cfg fp := by
  intro f g h
  unfold fp at h
  cases h49 : Nat.beq f 49 with
  | true =>
    rw [h49] at h; cases h
    exact ⟨pr memo49 49, by show prim f = _; rw [Nat.eq_of_beq_eq_true h49]; rfl, fun _ _ _ _ hq => qk_ok hq⟩
  | false =>
  rw [h49] at h; simp only [cond_false] at h
  cases h75 : Nat.beq f 75 with
  | true =>
    rw [h75] at h; cases h
    exact ⟨pr memo75 75, by show prim f = _; rw [Nat.eq_of_beq_eq_true h75]; rfl, fun _ _ _ _ hq => qk_ok hq⟩
  | false =>
  rw [h75] at h; simp only [cond_false] at h
  cases h
end Gr
end Den
