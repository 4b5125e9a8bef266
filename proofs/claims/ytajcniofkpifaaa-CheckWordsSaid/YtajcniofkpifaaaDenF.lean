/- Reading and writing cells on both sides. -/
import Derived.Test.YtajcniofkpifaaaDenE
import Derived.Laws.Cells
set_option linter.unusedSectionVars false
set_option linter.unusedVariables false
set_option linter.unusedSimpArgs false
namespace Den
open Go
variable [GTab]

def setBlk (w : World) (c : Nat) (o : Obj) : World := { w with heap := w.heap.setIfInBounds c o }

theorem addr_add (c off n : Nat) : (⟨c, off, none⟩ : Addr).add n = ⟨c, off + n, none⟩ := by
  unfold Addr.add; split <;> simp_all

theorem setBlk_get {w : World} {c : Nat} {o : Obj} (hc : c < w.heap.size) (c' : Nat) : (setBlk w c o).heap[c']? = if c' = c then some o else w.heap[c']? := by
  simp only [setBlk, Array.getElem?_setIfInBounds]
  by_cases e : c' = c
  · subst e; simp [hc]
  · rw [if_neg (fun h => e h.symm), if_neg e]

theorem setBlk_self {w : World} {c : Nat} {o : Obj} (h : w.heap[c]? = some o) : setBlk w c o = w := by
  have : w.heap.setIfInBounds c o = w.heap := by
    apply Array.ext_getElem?
    intro i
    rw [Array.getElem?_setIfInBounds]
    split
    · rename_i e; subst e
      split
      · exact h.symm
      · rename_i hlt; rw [Array.getElem?_eq_none (by omega)]
    · rfl
  simp [setBlk, this]

theorem setBlk_setBlk {w : World} {c : Nat} {o o' : Obj} : setBlk (setBlk w c o) c o' = setBlk w c o' := by
  have : (w.heap.setIfInBounds c o).setIfInBounds c o' = w.heap.setIfInBounds c o' := by
    apply Array.ext_getElem?
    intro i
    simp only [Array.getElem?_setIfInBounds]
    split
    · rename_i e; subst e; simp
    · rfl
  simp [setBlk, this]

def Unfrozen (fr : Nat × Nat) (n : Nat) : Prop := ∀ i, i < n → (decide (fr.1 ≤ i) && decide (i < fr.2)) = false

theorem setCell_eq {w : World} {c off : Nat} {vs : Array Value} {ty : TypeId} {fr : Nat × Nat} (h : w.heap[c]? = some (.cells vs ty fr)) (v : Value) :
    w.setCell ⟨c, off, none⟩ v = setBlk w c (.cells (vs.setIfInBounds off v) ty fr) := by
  have : (w.heap.modify c fun
      | .cells c elem frozen => .cells (if (none : Option Nat).isSome then c else c.setIfInBounds off v) elem frozen
      | o => o) = w.heap.setIfInBounds c (.cells (vs.setIfInBounds off v) ty fr) := by
    apply Array.ext_getElem?
    intro i
    rw [Array.getElem?_modify, Array.getElem?_setIfInBounds]
    split
    · rename_i e; subst e
      rw [h]
      have : c < w.heap.size := by
        rcases Nat.lt_or_ge c w.heap.size with h' | h'
        · exact h'
        · rw [Array.getElem?_eq_none h'] at h; cases h
      simp [this]
    · rfl
  simp only [World.setCell, setBlk]
  exact congrArg (fun x => { w with heap := x }) this

theorem run_storeCells_D (P : Program) (c off : Nat) (ty : TypeId) (fr : Nat × Nat) : ∀ (vs : List Value) (i : Nat) (cur : Array Value) (w : World),
    w.heap[c]? = some (.cells cur ty fr) → Unfrozen fr cur.size → off + i + vs.length ≤ cur.size → (∀ v ∈ vs, v.oneCell' = true) →
    ∃ cur', (storeCells ⟨c, off, none⟩ vs i).run P w = .ok () (setBlk w c (.cells cur' ty fr)) ∧ cur'.size = cur.size ∧
      ∀ j, cur'[j]? = if off + i ≤ j ∧ j < off + i + vs.length then vs[j - (off + i)]? else cur[j]?
  | [], i, cur, w, hc, _, _, _ => ⟨cur, by rw [setBlk_self hc]; rfl, rfl, fun j => by simp; omega⟩
  | v :: vs, i, cur, w, hc, hu, hl, h1 => by
    simp only [List.length_cons] at hl
    have hlt : c < w.heap.size := by
      rcases Nat.lt_or_ge c w.heap.size with h' | h'
      · exact h'
      · rw [Array.getElem?_eq_none h'] at hc; cases hc
    have hcell : w.cell? ⟨c, off + i, none⟩ = some (cur[off + i]'(by omega)) := by
      simp [World.cell?, hc]
    have hfr : w.frozen? ⟨c, off + i, none⟩ = false := by
      simp only [World.frozen?, hc]; exact hu (off + i) (by omega)
    have hst : (store ((⟨c, off, none⟩ : Addr).add i) v).run P w = .ok () (setBlk w c (.cells (cur.setIfInBounds (off + i) v) ty fr)) := by
      rw [addr_add, run_store P w _ v .plain (h1 v (by simp)), hcell]
      simp only [hfr, Bool.false_eq_true, if_false]
      rw [setCell_eq hc]
    obtain ⟨cur', e1, e2, e3⟩ := run_storeCells_D P c off ty fr vs (i + 1) (cur.setIfInBounds (off + i) v) (setBlk w c (.cells (cur.setIfInBounds (off + i) v) ty fr))
      (by rw [setBlk_get hlt]; simp) (by simpa using hu) (by rw [Array.size_setIfInBounds]; omega) (fun x hx => h1 x (by simp [hx]))
    refine ⟨cur', ?_, by simpa using e2, fun j => ?_⟩
    · simp only [storeCells, Sem.run_bind, hst, Result.andThen_ok, e1, setBlk_setBlk]
    · rw [e3 j]
      simp only [List.length_cons]
      by_cases ha : off + (i + 1) ≤ j ∧ j < off + (i + 1) + vs.length
      · rw [if_pos ha, if_pos (by omega)]
        have : j - (off + i) = (j - (off + (i + 1))) + 1 := by omega
        rw [this, List.getElem?_cons_succ]
      · rw [if_neg ha]
        by_cases hb : off + i ≤ j ∧ j < off + i + (vs.length + 1)
        · rw [if_pos hb]
          have : j = off + i := by omega
          subst this
          rw [Array.getElem?_setIfInBounds, if_pos rfl, if_pos (by omega), Nat.sub_self]; rfl
        · rw [if_neg hb, Array.getElem?_setIfInBounds, if_neg (by omega)]

section
variable {g g' : Gh} {O O' : List ABlk} {S S' : List (List ABlk)} {w w' : World}

theorem VR.oneCell {lim : Nat} {a : AV} {v : Value} (h : VR g O S w lim a v) (h1 : a.one = true) : v.oneCell' = true := by
  cases h <;> first | rfl | (simp [AV.one] at h1)

/-- An abstract block is turned where it is. -/
theorem Mon.set (h : Sim g O S w) {d k c : Nat} {b b' : ABlk} {o : Obj} (hr : g.ρ d k = .at c) (hb : gm O S d k = some b)
    (hbe : BE w (setBlk w c o) b b' (.at c) (.at c)) : Mon g O S w g (smO O d k b') (smS S d k b') (setBlk w c o) where
  io := ⟨rfl, rfl⟩
  base := rfl
  size := by simp [setBlk]
  old c' hc' := by
    have := h.at_lt hr
    rw [setBlk_get this.2, if_neg (by omega)]
  imm c' m hm := by
    have hlt := h.at_lt hr
    have hne : c' ≠ c := by
      rintro rfl
      rw [(h.own d k c').1 hr] at hm; cases hm
    exact ⟨m, Nat.le_refl _, hm, fun i _ => cell_old (by rw [setBlk_get hlt.2, if_neg hne]) i⟩
  blk d' k' b0 hb0 := by
    rw [gm_set hb]
    by_cases e : d' = d ∧ k' = k
    · obtain ⟨rfl, rfl⟩ := e
      rw [hb] at hb0; cases hb0
      exact ⟨b', by simp, fun _ => by rw [hr]; exact hbe⟩
    · rw [if_neg e]
      refine ⟨b0, hb0, fun hu => ?_⟩
      have hs : ∀ c' n, g.ρ d' k' = .at c' → Sized w c' n → Sized (setBlk w c o) c' n := fun c' n hc' ⟨vs, ty, fr, p, q⟩ => by
        have hne : c' ≠ c := by rintro rfl; exact e (h.inj hc' hr)
        exact ⟨vs, ty, fr, by rw [setBlk_get (h.at_lt hr).2, if_neg hne]; exact p, q⟩
      cases b0 <;> simp only [BE]
      · exact ⟨trivial, trivial⟩
      · exact ⟨trivial, Nat.le_refl _, hu, fun _ => ⟨trivial, hs⟩⟩

theorem Sim.set (h : Sim g O S w) {d k c : Nat} {b b' : ABlk} {o : Obj} (hr : g.ρ d k = .at c) (hb : gm O S d k = some b)
    (hbe : BE w (setBlk w c o) b b' (.at c) (.at c)) (hn : BR g (smO O d k b') (smS S d k b') (setBlk w c o) d b' c) :
    Sim g (smO O d k b') (smS S d k b') (setBlk w c o) := by
  have hm := Mon.set h hr hb hbe
  have hlt := h.at_lt hr
  refine ⟨by simpa [setBlk] using h.base_le, fun c' hc' => h.fresh c' (by simpa [setBlk] using hc'), h.low, h.own, fun d' k' hr' => ?_, fun d' k' c' b0 hr' hb0 => ?_, fun d' k' hr' => ?_, h.glob.mono hm⟩
  · rw [gm_set hb]
    split
    · rfl
    · exact h.dom d' k' hr'
  · rw [gm_set hb] at hb0
    by_cases e : d' = d ∧ k' = k
    · obtain ⟨rfl, rfl⟩ := e
      simp only [and_self, if_true, Option.some.injEq] at hb0
      subst hb0
      rw [hr] at hr'; cases hr'
      exact hn
    · rw [if_neg e] at hb0
      have hne : c' ≠ c := by rintro rfl; exact e (h.inj hr' hr)
      exact (h.blk d' k' c' b0 hr' hb0).mono hm (by rw [setBlk_get hlt.2, if_neg hne])
  · have e : ¬ (d' = d ∧ k' = k) := by rintro ⟨rfl, rfl⟩; rw [hr] at hr'; cases hr'
    rw [gm_set hb, if_neg e]
    exact h.nilb d' k' hr'

theorem Evo.set (h : Sim g O S w) {d k c : Nat} {b b' : ABlk} {o : Obj} (hr : g.ρ d k = .at c) (hb : gm O S d k = some b)
    (hbe : BE w (setBlk w c o) b b' (.at c) (.at c)) : Evo g O S w g (smO O d k b') (smS S d k b') (setBlk w c o) where
  mon := Mon.set h hr hb hbe
  slen := smS_length
  un d' k' b0 hu hb0 := by
    refine ⟨?_, hu⟩
    rw [gm_set hb, if_neg]
    · exact hb0
    · rintro ⟨rfl, rfl⟩; rw [hr] at hu; cases hu

theorem putAt_length {cs new : List AV} {off : Nat} (h : off + new.length ≤ cs.length) : (putAt cs off new).length = cs.length := by
  simp [putAt]; omega

theorem putAt_get {cs new : List AV} {off : Nat} (h : off + new.length ≤ cs.length) (j : Nat) :
    (putAt cs off new)[j]? = if off ≤ j ∧ j < off + new.length then new[j - off]? else cs[j]? := by
  simp only [putAt, List.append_assoc, List.getElem?_append, List.length_take, List.getElem?_drop, List.getElem?_take]
  have : min off cs.length = off := by omega
  rw [this]
  by_cases h1 : j < off
  · rw [if_pos h1, if_pos h1, if_neg (by omega)]
  · rw [if_neg h1]
    by_cases h2 : j - off < new.length
    · rw [if_pos h2, if_pos (by omega)]
    · rw [if_neg h2, if_neg (by omega)]
      congr 1; omega

/-- Cells are written into a block. -/
theorem Sim.write (h : Sim g O S w) {d k c off : Nat} {cs new : List AV} {vs : List Value} (P : Program) (hr : g.ρ d k = .at c)
    (hb : gm O S d k = some (.arr cs)) (hoff : off + new.length ≤ cs.length) (hlen : vs.length = new.length)
    (hv : ∀ (i : Nat) (a : AV), new[i]? = some a → a.one = true ∧ ∃ v, vs[i]? = some v ∧ VR g O S w (d + 1) a v) :
    ∃ w', (storeCells ⟨c, off, none⟩ vs).run P w = .ok () w' ∧ Sim g (smO O d k (.arr (putAt cs off new))) (smS S d k (.arr (putAt cs off new))) w' ∧
      Evo g O S w g (smO O d k (.arr (putAt cs off new))) (smS S d k (.arr (putAt cs off new))) w' := by
  obtain ⟨cur, ⟨ty, fr, p1, p2⟩, p3, p4⟩ := h.blk d k c _ hr hb
  obtain ⟨cur', e1, e2, e3⟩ := run_storeCells_D P c off ty fr vs 0 cur w p1 p2 (by omega) (fun v hv' => by
    obtain ⟨i, hi⟩ := List.mem_iff_getElem?.1 hv'
    have hil : i < new.length := by
      rcases Nat.lt_or_ge i vs.length with h' | h'
      · omega
      · rw [List.getElem?_eq_none h'] at hi; cases hi
    obtain ⟨h1, v', h2, h3⟩ := hv i _ (List.getElem?_eq_getElem hil)
    rw [hi] at h2; cases h2
    exact h3.oneCell h1)
  have hbe : BE w (setBlk w c (.cells cur' ty fr)) (.arr cs) (.arr (putAt cs off new)) (.at c) (.at c) := ⟨putAt_length hoff, rfl⟩
  have hm := Mon.set h hr hb hbe
  refine ⟨_, e1, h.set hr hb hbe ⟨cur', ⟨ty, fr, by rw [setBlk_get (h.at_lt hr).2]; simp, by rw [e2]; exact p2⟩, by rw [putAt_length hoff, e2, p3], fun i a ha => ?_⟩, Evo.set h hr hb hbe⟩
  rw [putAt_get hoff] at ha
  rw [e3 i]
  split at ha
  · rename_i hc
    obtain ⟨h1, v, h2, h3⟩ := hv _ _ ha
    rw [if_pos (by omega)]
    exact ⟨h1, v, h2, h3.mono hm⟩
  · rename_i hc
    obtain ⟨h1, v, h2, h3⟩ := p4 i a ha
    rw [if_neg (by omega)]
    exact ⟨h1, v, h2, h3.mono hm⟩

theorem Sim.writeBuf (h : Sim g O S w) {d k c off sz : Nat} {cs new : List AV} {vs : List Value} (P : Program) (hr : g.ρ d k = .at c)
    (hb : gm O S d k = some (.buf sz cs)) (hoff : off + new.length ≤ cs.length) (hlen : vs.length = new.length)
    (hv : ∀ (i : Nat) (a : AV), new[i]? = some a → a.one = true ∧ ∃ v, vs[i]? = some v ∧ VR g O S w (d + 1) a v) :
    ∃ w', (storeCells ⟨c, off, none⟩ vs).run P w = .ok () w' ∧ Sim g (smO O d k (.buf sz (putAt cs off new))) (smS S d k (.buf sz (putAt cs off new))) w' ∧
      Evo g O S w g (smO O d k (.buf sz (putAt cs off new))) (smS S d k (.buf sz (putAt cs off new))) w' := by
  obtain ⟨cur, ⟨ty, fr, p1, p2⟩, p3, p4⟩ := h.blk d k c _ hr hb
  obtain ⟨cur', e1, e2, e3⟩ := run_storeCells_D P c off ty fr vs 0 cur w p1 p2 (by omega) (fun v hv' => by
    obtain ⟨i, hi⟩ := List.mem_iff_getElem?.1 hv'
    have hil : i < new.length := by
      rcases Nat.lt_or_ge i vs.length with h' | h'
      · omega
      · rw [List.getElem?_eq_none h'] at hi; cases hi
    obtain ⟨h1, v', h2, h3⟩ := hv i _ (List.getElem?_eq_getElem hil)
    rw [hi] at h2; cases h2
    exact h3.oneCell h1)
  have hbe : BE w (setBlk w c (.cells cur' ty fr)) (.buf sz cs) (.buf sz (putAt cs off new)) (.at c) (.at c) :=
    ⟨rfl, by rw [putAt_length hoff]; exact Nat.le_refl _, by simp, fun _ => ⟨rfl, fun c' n hc' ⟨vs0, ty0, fr0, q1, q2⟩ => by
      cases hc'
      rw [p1] at q1; cases q1
      exact ⟨cur', ty, fr, by rw [setBlk_get (h.at_lt hr).2]; simp, by rw [e2]; exact q2⟩⟩⟩
  have hm := Mon.set h hr hb hbe
  refine ⟨_, e1, h.set hr hb hbe ⟨cur', ⟨ty, fr, by rw [setBlk_get (h.at_lt hr).2]; simp, by rw [e2]; exact p2⟩, by rw [putAt_length hoff, e2]; exact p3, fun i a ha => ?_⟩, Evo.set h hr hb hbe⟩
  rw [putAt_get hoff] at ha
  rw [e3 i]
  split at ha
  · rename_i hc
    obtain ⟨h1, v, h2, h3⟩ := hv _ _ ha
    rw [if_pos (by omega)]
    exact ⟨h1, v, h2, h3.mono hm⟩
  · rename_i hc
    obtain ⟨h1, v, h2, h3⟩ := p4 i a ha
    rw [if_neg (by omega)]
    exact ⟨h1, v, h2, h3.mono hm⟩

end
end Den
