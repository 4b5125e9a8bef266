/- Growing a slice, in its place and in a new one; a map's entries. -/
import Derived.Test.YtajcniofkpifaaaDenN
set_option linter.unusedSectionVars false
set_option linter.unusedVariables false
set_option linter.unusedSimpArgs false
namespace Den
open Go
variable [GTab]

section
variable {g : Gh} {O : List ABlk} {S : List (List ABlk)} {w : World}

theorem Sim.extend (h : Sim g O S w) {d k c sz : Nat} {cs new : List AV} {vs : List Value} (P : Program) (hr : g.ρ d k = .at c)
    (hb : gm O S d k = some (.buf sz cs)) (hsz : Sized w c (cs.length + new.length)) (hlen : vs.length = new.length)
    (hv : ∀ (i : Nat) (a : AV), new[i]? = some a → a.one = true ∧ ∃ v, vs[i]? = some v ∧ VR g O S w (d + 1) a v) :
    ∃ w', (storeCells ⟨c, cs.length, none⟩ vs).run P w = .ok () w' ∧ Sim g (smO O d k (.buf sz (cs ++ new))) (smS S d k (.buf sz (cs ++ new))) w' ∧
      Evo g O S w g (smO O d k (.buf sz (cs ++ new))) (smS S d k (.buf sz (cs ++ new))) w' ∧ ∀ n, Sized w c n → Sized w' c n := by
  obtain ⟨cur, ⟨ty, fr, p1, p2⟩, p3, p4⟩ := h.blk d k c _ hr hb
  obtain ⟨vs0, ty0, fr0, s1, s2⟩ := hsz
  rw [p1] at s1; cases s1
  obtain ⟨cur', e1, e2, e3⟩ := run_storeCells_D P c cs.length ty fr vs 0 cur w p1 p2 (by omega) (fun v hv' => by
    obtain ⟨i, hi⟩ := List.mem_iff_getElem?.1 hv'
    have hil : i < new.length := by
      rcases Nat.lt_or_ge i vs.length with h' | h'
      · omega
      · rw [List.getElem?_eq_none h'] at hi; cases hi
    obtain ⟨h1, v', h2, h3⟩ := hv i _ (List.getElem?_eq_getElem hil)
    rw [hi] at h2; cases h2
    exact h3.oneCell h1)
  have hsized : ∀ n, Sized w c n → Sized (setBlk w c (.cells cur' ty fr)) c n := fun n ⟨vs0, ty0, fr0, q1, q2⟩ => by
    rw [p1] at q1; cases q1
    exact ⟨cur', ty, fr, by rw [setBlk_get (h.at_lt hr).2]; simp, by rw [e2]; exact q2⟩
  have hbe : BE w (setBlk w c (.cells cur' ty fr)) (.buf sz cs) (.buf sz (cs ++ new)) (.at c) (.at c) :=
    ⟨rfl, by simp, by simp, fun _ => ⟨rfl, fun c' n hc' hs => by cases hc'; exact hsized n hs⟩⟩
  have hm := Mon.set h hr hb hbe
  refine ⟨_, e1, h.set hr hb hbe ⟨cur', ⟨ty, fr, by rw [setBlk_get (h.at_lt hr).2]; simp, by rw [e2]; exact p2⟩, by rw [e2]; simpa using s2, fun i a ha => ?_⟩, Evo.set h hr hb hbe, hsized⟩
  rw [e3 i]
  by_cases hi : i < cs.length
  · rw [List.getElem?_append_left hi] at ha
    obtain ⟨h1, v, h2, h3⟩ := p4 i a ha
    rw [if_neg (by omega)]
    exact ⟨h1, v, h2, h3.mono hm⟩
  · rw [List.getElem?_append_right (by omega)] at ha
    obtain ⟨h1, v, h2, h3⟩ := hv _ _ ha
    have : i - cs.length < new.length := by
      rcases Nat.lt_or_ge (i - cs.length) new.length with h' | h'
      · exact h'
      · rw [List.getElem?_eq_none h'] at ha; cases ha
    rw [if_pos (by omega)]
    exact ⟨h1, v, h2, h3.mono hm⟩

/-- A slice moves to a new block of the machine's. -/
def Gh.move (g : Gh) (d k c' : Nat) : Gh :=
  { g with
    σ := fun x => if x = c' then .abs d k else if g.σ x = .abs d k then .garb else g.σ x
    ρ := fun x y => if x = d ∧ y = k then .at c' else g.ρ x y }

theorem Sim.moveTo (h : Sim g O S w) {d k sz : Nat} {cs cs' : List AV} {o : Obj} (hu : g.ρ d k ≠ .un)
    (hb : gm O S d k = some (.buf sz cs)) (hlt : cs.length < cs'.length) (hn : NewR g O S w d (.buf sz cs') o) :
    Sim (g.move d k w.heap.size) (smO O d k (.buf sz cs')) (smS S d k (.buf sz cs')) (pushW w o) ∧
    Evo g O S w (g.move d k w.heap.size) (smO O d k (.buf sz cs')) (smS S d k (.buf sz cs')) (pushW w o) := by
  have hltA : ∀ {d' k' c : Nat}, g.ρ d' k' = .at c → c < w.heap.size := fun hr => (h.at_lt hr).2
  have himm : ∀ c m, g.σ c = .imm m → c < w.heap.size := fun c m hm => by
    rcases Nat.lt_or_ge c w.heap.size with h' | h'
    · exact h'
    · rw [h.fresh c h'] at hm; cases hm
  have hm : Mon g O S w (g.move d k w.heap.size) (smO O d k (.buf sz cs')) (smS S d k (.buf sz cs')) (pushW w o) := by
    refine ⟨⟨rfl, rfl⟩, rfl, by simp [pushW], fun c hc => heap_push o c (Nat.lt_of_lt_of_le hc h.base_le), fun c m hcm => ?_, fun d' k' b hb' => ?_⟩
    · have hc := himm c m hcm
      refine ⟨m, Nat.le_refl _, ?_, fun i _ => cell_old (heap_push o c hc) i⟩
      simp only [Gh.move]
      rw [if_neg (by omega), if_neg (by rw [hcm]; simp)]
      exact hcm
    · rw [gm_set hb]
      by_cases e : d' = d ∧ k' = k
      · obtain ⟨rfl, rfl⟩ := e
        rw [hb] at hb'; cases hb'
        refine ⟨.buf sz cs', by simp, fun _ => ?_⟩
        simp only [BE, Gh.move, and_self, if_true]
        exact ⟨trivial, by omega, by simp, fun he => by omega⟩
      · rw [if_neg e]
        refine ⟨b, hb', fun hu' => ?_⟩
        have hs : ∀ c n, g.ρ d' k' = .at c → Sized w c n → Sized (pushW w o) c n := fun c n hc ⟨vs, ty, fr, p, q⟩ =>
          ⟨vs, ty, fr, (heap_push o c (hltA hc)).trans p, q⟩
        cases b <;> simp only [BE, Gh.move, if_neg e]
        · exact ⟨trivial, trivial⟩
        · exact ⟨trivial, Nat.le_refl _, hu', fun _ => ⟨trivial, hs⟩⟩
  refine ⟨⟨by have := h.base_le; simp [pushW, Gh.move]; omega, fun c hc => ?_, fun c hc => ?_, fun d' k' c => ?_, fun d' k' hr => ?_, fun d' k' c b hr hb' => ?_, fun d' k' hr => ?_, h.glob.mono hm⟩, hm, smS_length, fun d' k' b hu' hb' => ?_⟩
  · simp [pushW] at hc
    have h0 := h.fresh c (by omega)
    simp only [Gh.move]
    rw [if_neg (by omega), h0]
    simp
  · have := h.base_le
    simp only [Gh.move] at hc ⊢
    rw [if_neg (by omega), h.low c hc]
    simp
  · simp only [Gh.move]
    by_cases e : d' = d ∧ k' = k
    · obtain ⟨rfl, rfl⟩ := e
      simp only [and_self, if_true, Loc.at.injEq]
      constructor
      · rintro rfl; simp
      · intro hc
        split at hc
        · rename_i e2; exact e2.symm
        · split at hc
          · cases hc
          · rename_i h1 h2; exact absurd hc h2
    · rw [if_neg e]
      constructor
      · intro hr
        have hc := hltA hr
        have := (h.own d' k' c).1 hr
        rw [if_neg (by omega), this, if_neg]
        simp only [Own.abs.injEq]
        exact e
      · intro hc
        split at hc
        · simp only [Own.abs.injEq] at hc; exact absurd ⟨hc.1.symm, hc.2.symm⟩ e
        · split at hc
          · cases hc
          · exact (h.own d' k' c).2 hc
  · rw [gm_set hb]
    by_cases e : d' = d ∧ k' = k
    · rw [if_pos e]; rfl
    · rw [if_neg e]
      simp only [Gh.move, if_neg e] at hr
      exact h.dom d' k' hr
  · rw [gm_set hb] at hb'
    by_cases e : d' = d ∧ k' = k
    · obtain ⟨rfl, rfl⟩ := e
      simp only [and_self, if_true, Option.some.injEq] at hb'
      subst hb'
      simp only [Gh.move, and_self, if_true, Loc.at.injEq] at hr
      subst hr
      exact (hn.mono hm).toBR (by show (w.heap.push o)[w.heap.size]? = some o; rw [Array.getElem?_push, if_pos rfl])
    · rw [if_neg e] at hb'
      simp only [Gh.move, if_neg e] at hr
      exact (h.blk d' k' c b hr hb').mono hm (heap_push o c (hltA hr))
  · by_cases e : d' = d ∧ k' = k
    · obtain ⟨rfl, rfl⟩ := e; simp [Gh.move] at hr
    · simp only [Gh.move, if_neg e] at hr
      rw [gm_set hb, if_neg e]
      exact h.nilb d' k' hr
  · by_cases e : d' = d ∧ k' = k
    · obtain ⟨rfl, rfl⟩ := e; exact absurd hu' hu
    · refine ⟨by rw [gm_set hb, if_neg e]; exact hb', by simp only [Gh.move, if_neg e]; exact hu'⟩

/-- A map's entries are turned. -/
theorem Sim.setMap (h : Sim g O S w) {d k c : Nat} {es es' : List (AV × AV)} {ms : Array MapEntry} {ck : Nat} (hr : g.ρ d k = .at c)
    (hb : gm O S d k = some (.map es)) (hl : ms.size = es'.length)
    (hv : ∀ (i : Nat) (a : AV × AV), es'[i]? = some a → a.1.one = true ∧ a.2.one = true ∧ ∃ m, ms[i]? = some m ∧ VR g O S w 0 a.1 m.key ∧ VR g O S w (d + 1) a.2 m.val) :
    Sim g (smO O d k (.map es')) (smS S d k (.map es')) (setBlk w c (.map ms ck)) ∧
    Evo g O S w g (smO O d k (.map es')) (smS S d k (.map es')) (setBlk w c (.map ms ck)) := by
  have hbe : BE w (setBlk w c (.map ms ck)) (.map es) (.map es') (.at c) (.at c) := rfl
  have hm := Mon.set h hr hb hbe
  refine ⟨h.set hr hb hbe ⟨ms, ck, by rw [setBlk_get (h.at_lt hr).2]; simp, hl, fun i a ha => ?_⟩, Evo.set h hr hb hbe⟩
  obtain ⟨p1, p2, m, p3, p4, p5⟩ := hv i a ha
  exact ⟨p1, p2, m, p3, p4.mono hm, p5.mono hm⟩

end
end Den
