/- Regions whose order is drawn: any order. -/
import Derived.Test.YtajcniofkpifaaaDenDr
set_option linter.unusedSectionVars false
set_option linter.unusedVariables false
set_option linter.unusedSimpArgs false
namespace Den
open Go
variable [GTab]

theorem layOut_get {as : List AOp} {an : List Nat} : ∀ (ord bef : List Nat), (∀ i ∈ ord, (as[i]?).isSome = true) → (layOut as an bef ord).length = ord.length ∧
    ∀ (p i : Nat) (a : AOp), ord[p]? = some i → as[i]? = some a → (layOut as an bef ord)[p]? = some (if a.op.isEff then { a with chk := chksOf as an (bef ++ ord.take p) i } else a)
  | [], _, _ => ⟨rfl, fun p i a h => by simp at h⟩
  | j :: ord, bef, h => by
    obtain ⟨b, hb⟩ := Option.isSome_iff_exists.1 (h j (by simp))
    obtain ⟨h1, h2⟩ := layOut_get (an := an) ord (bef ++ [j]) fun i hi => h i (List.mem_cons_of_mem _ hi)
    simp only [layOut, hb]
    refine ⟨by simp [h1], fun p i a hp ha => ?_⟩
    cases p with
    | zero => simp at hp; subst hp; rw [hb] at ha; cases ha; simp
    | succ p =>
      have := h2 p i a (by simpa using hp) ha
      simpa using this

theorem chksOf_mem {as : List AOp} {an bef : List Nat} {e i : Nat} {a : AOp} {d : Nat} (hi : i ∈ bef) (ha : as[i]? = some a) (hl : a.op.isLoad = true) (hr : relA an i e = false) (hd : a.dst = some d) :
    (d, a.op) ∈ chksOf as an bef e := by
  unfold chksOf
  refine List.mem_filterMap.2 ⟨i, hi, ?_⟩
  simp only [relA] at hr
  simp only [ha, hl, hr, hd, Bool.not_false, Bool.and_self, if_true, Option.map_some]

section
variable {P : Program} {cfg : Cfg} {call : FuncId → List AV → List ABlk → List (List ABlk) → Ans}

theorem drawn_ok (hcfg : CfgOk P cfg) (hcall : ∀ f args O S r O' S', call f args O S = some (r, O', S') → CallOk P f args O S r O' S') : DrawnOk P cfg call := by
  intro fc ops l hl st st' a w g hx hr Q hQ
  simp only [cregion] at hl
  split at hl
  · cases hl
  · rename_i as has
    simp only [if_true] at hl
    split at hl
    · rename_i hok
      simp only [Option.some.injEq] at hl
      generalize han : ancs ops.toList [] = an at hok hl
      generalize hord : sched as an as.length 0 = ord at hok hl
      obtain ⟨ix, A, R, dr⟩ := orderOk_spec hok
      obtain ⟨k1, k2⟩ := copers_spec has
      have hall : ∀ i ∈ ord, (as[i]?).isSome = true := fun i hi => by
        obtain ⟨q, hq⟩ := List.mem_iff_getElem?.1 hi
        have hql : q < ord.length := by
          rcases Nat.lt_or_ge q ord.length with h' | h'
          · exact h'
          · rw [List.getElem?_eq_none h'] at hq; cases hq
        have hqn : q < ops.size := by rw [← dr.hord]; exact hql
        rw [dr.hix q hqn] at hq; cases hq
        rw [dr.has q hqn]; rfl
      obtain ⟨l1, l2⟩ := layOut_get (an := an) ord [] hall
      rw [hl] at l1 l2
      obtain ⟨c, val, c0, cn, hst⟩ := exec_trace l st st' hx
      have hln : l.length = ops.size := by rw [l1, dr.hord]
      have T : Tr P cfg call fc ops as an ord ops.size ix A R c val := by
        refine ⟨dr, rfl, fun p hp => ?_, fun p hp => ?_⟩
        · obtain ⟨o, ho1, ho2⟩ := k2 (ix p) (A p) (dr.has p hp)
          exact ⟨o, by simpa using ho1, ho2⟩
        · have hlp := l2 p (ix p) (A p) (dr.hix p hp) (dr.has p hp)
          refine ⟨_, ?_, ?_, ?_, hst p _ hlp, fun he q hq hrq hlq d hd => ?_⟩
          · split <;> rfl
          · split <;> rfl
          · split <;> rfl
          · rw [if_pos he]
            have hqn : q < ops.size := by omega
            refine chksOf_mem (i := ix q) ?_ (dr.has q hqn) hlq (by rw [← dr.hrel]; exact hrq) hd
            simp only [List.nil_append]
            refine List.mem_iff_getElem?.2 ⟨q, ?_⟩
            rw [List.getElem?_take, if_pos hq]
            exact dr.hix q hqn
      subst c0
      rw [hln] at cn
      obtain ⟨K0, I0⟩ := T.init hr
      -- what is listed
      have main : ∀ (fuel : Nat) (listed : Array Bool) (rest : List Nat), listed.size = ops.size → rest.length ≤ fuel → (∀ i, i < ops.size → listed.getD i false = false → i ∈ rest) →
          ∀ (D : Nat → Bool), (D = fun p => decide (p < ops.size) && listed.getD (ix p) false) → ∀ K g' a' w', InvK A R ops.size c val g w D K g' a' w' → wpAny P .any ops Q fuel listed a' w' := by
        intro fuel
        have hfin : ∀ (listed : Array Bool), listed.size = ops.size → ∀ (D : Nat → Bool), (D = fun p => decide (p < ops.size) && listed.getD (ix p) false) → ∀ K g' a' w', InvK A R ops.size c val g w D K g' a' w' →
            (∀ p, p < ops.size → D p = true) → Q .normal a' w' := by
          intro listed hsz D hD K g' a' w' I hdone
          have hK : K = ops.size := by
            rcases Nat.lt_or_ge K ops.size with h | h
            · have := (I.done K h (I.eff h)).1 (hdone K h); omega
            · have := I.le; omega
          subst hK
          refine hQ g' a' w' ?_ (by rw [← cn]; exact I.evo)
          rw [← cn]
          refine ⟨I.str.sim, ⟨⟨?_, I.str.sim.globVR⟩, fun i => ?_⟩, I.str.defers, I.str.ne⟩
          · rw [T.env _ (Nat.le_refl _), envD_length]
            have := I.str.env.1.1
            simp only [envD_length] at this
            exact this
          · have := I.str.env.2 i
            rw [T.env _ (Nat.le_refl _)]
            have e : (envE A val c D ops.size).getD i .undef = (envE A val c (fun _ => true) ops.size).getD i .undef := envD_agree _ fun q hq _ => hdone q hq
            rw [← e]; exact this
        have hready : ∀ (listed : Array Bool), listed.size = ops.size → ∀ (D : Nat → Bool), (D = fun p => decide (p < ops.size) && listed.getD (ix p) false) → Region.ready .any ops listed = [] → ∀ p, p < ops.size → D p = true := by
          intro listed hsz D hD hrd
          have key : ∀ k p, p ≤ k → p < ops.size → D p = true := by
            intro k
            induction k with
            | zero =>
              intro p hpk hp
              exact (by
                have : p = 0 := by omega
                subst this
                cases hDp : D 0 with
                | true => rfl
                | false =>
                  exfalso
                  obtain ⟨o, ho, _⟩ := T.cop 0 hp
                  have hmem : ix 0 ∈ Region.ready .any ops listed := by
                    unfold Region.ready
                    refine List.mem_filter.2 ⟨List.mem_range.2 (dr.hin 0 hp), ?_⟩
                    have hlt : ix 0 < listed.size := by rw [hsz]; exact dr.hin 0 hp
                    have hf : listed.getD (ix 0) true = false := by
                      rw [hD] at hDp
                      simp only [hp, decide_true, Bool.true_and] at hDp
                      simp only [Array.getD, hlt, dif_pos] at hDp ⊢; exact hDp
                    rw [hf, ho]
                    simp only [Bool.not_false, Bool.true_and, Option.map_some, Option.getD_some, Array.all_eq_true]
                    intro j hj
                    cases hb : Region.binds .any (o.after[j]) with
                    | false => rfl
                    | true =>
                      exfalso
                      have hm : (o.after[j]).on ∈ anyOn o := List.mem_filterMap.2 ⟨o.after[j], by simp, by simp [hb]⟩
                      obtain ⟨q, hq, hqe⟩ := dr.hsur _ (dr.hon 0 o hp ho _ hm)
                      have := dr.hR q 0 hq hp (dr.hdir q 0 o hq hp ho (by rw [hqe]; exact hm))
                      omega
                  rw [hrd] at hmem
                  cases hmem)
            | succ k ih =>
              intro p hpk hp
              cases hDp : D p with
              | true => rfl
              | false =>
                exfalso
                obtain ⟨o, ho, _⟩ := T.cop p hp
                have hmem : ix p ∈ Region.ready .any ops listed := by
                  unfold Region.ready
                  refine List.mem_filter.2 ⟨List.mem_range.2 (dr.hin p hp), ?_⟩
                  have hlt : ix p < listed.size := by rw [hsz]; exact dr.hin p hp
                  have hf : listed.getD (ix p) true = false := by
                    rw [hD] at hDp
                    simp only [hp, decide_true, Bool.true_and] at hDp
                    simp only [Array.getD, hlt, dif_pos] at hDp ⊢; exact hDp
                  rw [hf, ho]
                  simp only [Bool.not_false, Bool.true_and, Option.map_some, Option.getD_some, Array.all_eq_true]
                  intro j hj
                  cases hb : Region.binds .any (o.after[j]) with
                  | false => rfl
                  | true =>
                    have hm : (o.after[j]).on ∈ anyOn o := List.mem_filterMap.2 ⟨o.after[j], by simp, by simp [hb]⟩
                    obtain ⟨q, hq, hqe⟩ := dr.hsur _ (dr.hon p o hp ho _ hm)
                    have hqp := dr.hR q p hq hp (dr.hdir q p o hq hp ho (by rw [hqe]; exact hm))
                    have := ih q (by omega) hq
                    rw [hD] at this
                    simp only [hq, decide_true, Bool.true_and] at this
                    rw [hqe] at this
                    simp [this]
                rw [hrd] at hmem
                cases hmem
          intro p hp
          exact key p p (Nat.le_refl _) hp
        induction fuel with
        | zero =>
          intro listed rest hsz hrl hrest D hD K g' a' w' I
          have hr0 : rest = [] := List.length_eq_zero_iff.1 (by omega)
          subst hr0
          have hdone : ∀ p, p < ops.size → D p = true := fun p hp => by
            rw [hD]
            simp only [hp, decide_true, Bool.true_and]
            cases hf : listed.getD (ix p) false with
            | true => rfl
            | false => have := hrest (ix p) (dr.hin p hp) hf; cases this
          refine ⟨?_, hfin listed hsz D hD K g' a' w' I hdone⟩
          unfold Region.ready
          rw [List.filter_eq_nil_iff]
          intro i hi
          have hi' := List.mem_range.1 hi
          obtain ⟨p, hp, rfl⟩ := dr.hsur i hi'
          have := hdone p hp
          rw [hD] at this
          simp only [hp, decide_true, Bool.true_and] at this
          have hlt : ix p < listed.size := by rw [hsz]; exact hi'
          have hft : listed.getD (ix p) true = listed.getD (ix p) false := by simp [Array.getD, hlt]
          rw [hft, this]
          simp
        | succ fuel ih =>
          intro listed rest hsz hrl hrest D hD K g' a' w' I
          refine ⟨fun hrd => hfin listed hsz D hD K g' a' w' I (hready listed hsz D hD hrd), fun i hi => ?_⟩
          unfold Region.ready at hi
          obtain ⟨hi1, hi2⟩ := List.mem_filter.1 hi
          have hin := List.mem_range.1 hi1
          obtain ⟨p, hp, rfl⟩ := dr.hsur i hin
          have hlt : ix p < listed.size := by rw [hsz]; exact hin
          obtain ⟨o, ho, _⟩ := T.cop p hp
          simp only [ho, Option.map_some, Option.getD_some, Bool.and_eq_true, Bool.not_eq_true', Array.all_eq_true] at hi2
          obtain ⟨hf, hedges⟩ := hi2
          have h0 : D p = false := by
            rw [hD]
            simp only [hp, decide_true, Bool.true_and]
            simp only [Array.getD, hlt, dif_pos] at hf ⊢; exact hf
          have hlisted : ∀ m ∈ anyOn o, ∃ r, r < ops.size ∧ ix r = m ∧ D r = true := fun m hm => by
            obtain ⟨r, hr, hre⟩ := dr.hsur m (dr.hon p o hp ho m hm)
            refine ⟨r, hr, hre, ?_⟩
            obtain ⟨e, he1, he2⟩ := List.mem_filterMap.1 hm
            split at he2
            · rename_i hb
              cases he2
              obtain ⟨j, hj, rfl⟩ := Array.mem_iff_getElem.1 (by simpa using he1 : e ∈ o.after)
              have := hedges j hj
              rw [hb] at this
              simp only [Bool.not_true, Bool.false_or] at this
              rw [hD]
              simp only [hr, decide_true, Bool.true_and]
              rw [hre]; exact this
            · cases he2
          have hanc : ∀ q, q < ops.size → R q p = true → D q = true := fun q hq hR => by
            rcases dr.hcl q p o hq hp hR ho with h | ⟨m, hm, hrel⟩
            · obtain ⟨r, hr, hre, hDr⟩ := hlisted _ h
              rw [← dr.hinj r q hr hq hre]; exact hDr
            · obtain ⟨r, hr, hre, hDr⟩ := hlisted _ hm
              refine I.closed q r hq hr hDr ?_
              rw [dr.hrel, hre]; exact hrel
          refine T.step hcfg hcall I hp h0 hanc fun K' g2 a2 w2 I2 => ?_
          refine ih _ (rest.erase (ix p)) (by simp [hsz]) ?_ (fun j hj hjf => ?_) _ ?_ K' g2 a2 w2 I2
          · have hmem : ix p ∈ rest := hrest (ix p) hin (by simp only [Array.getD, hlt, dif_pos] at hf ⊢; exact hf)
            rw [List.length_erase_of_mem hmem]; omega
          · have hne : j ≠ ix p := by
              rintro rfl
              simp [Array.getD, hlt] at hjf
            refine (List.mem_erase_of_ne hne).2 (hrest j hj ?_)
            rw [Array.getD_eq_getD_getElem?] at hjf ⊢
            rw [Array.getElem?_setIfInBounds_ne (fun e => hne e.symm)] at hjf
            exact hjf
          · funext q
            by_cases hq : q < ops.size
            · simp only [hq, decide_true, Bool.true_and, hD]
              by_cases e : q = p
              · subst e
                simp [Array.getD, hlt]
              · have hne : ix q ≠ ix p := fun h => e (dr.hinj q p hq hp h)
                have e1 : (listed.setIfInBounds (ix p) true).getD (ix q) false = listed.getD (ix q) false := by
                  rw [Array.getD_eq_getD_getElem?, Array.getD_eq_getD_getElem?, Array.getElem?_setIfInBounds_ne (fun h => hne h.symm)]
                rw [e1]
                simp [e]
            · have : q ≠ p := by rintro rfl; exact hq hp
              simp [hq, hD, this]
      refine main ops.size (Array.replicate ops.size false) (List.range ops.size) (by simp) (by simp) (fun i hi _ => List.mem_range.2 hi) _ ?_ K0 g a w I0
      funext p
      by_cases hp : p < ops.size
      · simp [Array.getD, dr.hin p hp]
      · simp [hp]
    · cases hl

/-- A function whose body comes to that, where its calls come to what 'call' says. -/
theorem body (hcfg : CfgOk P cfg) (hcall : ∀ f args O S r O' S', call f args O S = some (r, O', S') → CallOk P f args O S r O' S') {n : Nat} {f : FuncId} {F : AFn} (hF : cfg.code f = some F)
    {args : List AV} {O : List ABlk} {S : List (List ABlk)} {r : AV} {O' : List ABlk} {S' : List (List ABlk)}
    (h : fin (cfg.own f) F (exec cfg call n F.body (enter F args O S)) = some (r, O', S')) : CallOk P f args O S r O' S' :=
  body_sound hcfg hcall (drawn_ok hcfg hcall) hF h

/-- What den says of a call, the machine does. -/
theorem sound (hcfg : CfgOk P cfg) {n : Nat} {f : FuncId} {args : List AV} {O : List ABlk} {S : List (List ABlk)} {r : AV} {O' : List ABlk} {S' : List (List ABlk)}
    (h : den cfg n f args O S = some (r, O', S')) : CallOk P f args O S r O' S' :=
  den_sound hcfg (fun _ hcall => drawn_ok hcfg hcall) n f args O S r O' S' h

end
end Den
