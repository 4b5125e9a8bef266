/- A call without addresses comes to the same wherever it is made. -/
import Derived.Test.YtajcniofkpifaaaDenTop
set_option linter.unusedSectionVars false
set_option linter.unusedVariables false
set_option linter.unusedSimpArgs false
namespace Den
open Go
variable [GTab]

/-- No address, no memory. -/
def free1 : AV → Bool
  | .int .. | .bool _ | .str _ | .nilp | .nils | .nili | .nilf | .nilm => true
  | _ => false
def free : AV → Bool
  | .agg cs => cs.all free1
  | .tup cs => cs.all fun c => match c with
    | .agg l => l.all free1
    | c => free1 c
  | v => free1 v

section
variable {P : Program} {g g2 : Gh} {O O2 : List ABlk} {S S2 : List (List ABlk)} {w w2 : World} {lim lim2 : Nat}

theorem VR.free1 {a : AV} {v : Value} (h : VR g O S w lim a v) (ha : free1 a = true) : VR g2 O2 S2 w2 lim2 a v := by
  cases h <;> first | (cases ha; done) | constructor
theorem VR.freeA {cs : List AV} {v : Value} (h : VR g O S w lim (.agg cs) v) (ha : cs.all Den.free1 = true) : VR g2 O2 S2 w2 lim2 (.agg cs) v := by
  cases h with
  | agg f hs hf hv h1 => exact .agg f hs hf (fun i a hi => (hv i a hi).free1 (List.all_eq_true.1 ha a (List.mem_of_getElem? hi))) h1
theorem VR.free {a : AV} {v : Value} (h : VR g O S w lim a v) (ha : Den.free a = true) : VR g2 O2 S2 w2 lim2 a v := by
  cases a with
  | agg cs => exact h.freeA ha
  | tup cs =>
    cases h with
    | tup f hs hf hv =>
      refine .tup f hs hf fun i a hi => ?_
      have := List.all_eq_true.1 ha a (List.mem_of_getElem? hi)
      cases a with
      | agg l => exact (hv i _ hi).freeA this
      | _ => exact (hv i _ hi).free1 this
  | _ => exact h.free1 ha

/-- What was there is as it was: the same readings go on. -/
theorem Mon.ext (hs : Sim g O S w) (io : w2.os = w.os ∧ w2.output = w.output) (size : w.heap.size ≤ w2.heap.size) (old : ∀ c, c < w.heap.size → w2.heap[c]? = w.heap[c]?) : Mon g O S w g O S w2 where
  io := io
  base := rfl
  size := size
  old c hc := old c (Nat.lt_of_lt_of_le hc hs.base_le)
  imm c m hm := by
    have hlt : c < w.heap.size := by
      rcases Nat.lt_or_ge c w.heap.size with h' | h'
      · exact h'
      · rw [hs.fresh c h'] at hm; cases hm
    exact ⟨m, Nat.le_refl _, hm, fun i _ => cell_old (old c hlt) i⟩
  blk d k b hb := ⟨b, hb, fun hu => by
    have hz : ∀ c n, g.ρ d k = .at c → Sized w c n → Sized w2 c n := fun c n hc ⟨vs, ty, fr, p, q⟩ => ⟨vs, ty, fr, by rw [old c (hs.at_lt hc).2]; exact p, q⟩
    cases b <;> simp only [BE]
    · exact ⟨trivial, trivial⟩
    · exact ⟨trivial, Nat.le_refl _, hu, fun _ => ⟨trivial, hz⟩⟩⟩
theorem Sim.ext (hs : Sim g O S w) (io : w2.os = w.os ∧ w2.output = w.output) (size : w.heap.size ≤ w2.heap.size) (old : ∀ c, c < w.heap.size → w2.heap[c]? = w.heap[c]?) : Sim g O S w2 := by
  have hm := Mon.ext hs io size old
  refine ⟨Nat.le_trans hs.base_le size, fun c hc => hs.fresh c (Nat.le_trans size hc), hs.low, hs.own, hs.dom, fun d k c b hr hb => ?_, hs.nilb, hs.glob.mono hm⟩
  exact (hs.blk d k c b hr hb).mono hm (old c (hs.at_lt hr).2)

theorem CallOk.anywhere {f : FuncId} {args : List AV} {r : AV} {O' : List ABlk} {S' : List (List ABlk)} (h : CallOk P f args [] [] r O' S') (ha : args.all Den.free = true) (hr : Den.free r = true)
    (O : List ABlk) (S : List (List ABlk)) : CallOk P f args O S r O S := by
  refine ⟨h.1, fun g w vs hs hl hv => ?_⟩
  have hg : GlobOk (g0 w) w := fun n cs hn => ⟨Nat.lt_of_lt_of_le (hs.glob n cs hn).1 hs.base_le, (hs.glob n cs hn).2⟩
  refine (h.2 (g0 w) w vs (Sim.g0 w hg) hl (fun i x hx => ?_)).mono fun e w' hh => ?_
  · obtain ⟨v, h1, h2⟩ := hv i x hx
    exact ⟨v, h1, h2.free (List.all_eq_true.1 ha x (List.mem_of_getElem? hx))⟩
  · obtain ⟨g', v, rfl, _, he, hvr⟩ := hh
    have io := he.mon.io
    have sz := he.mon.size
    have old : ∀ c, c < w.heap.size → w'.heap[c]? = w.heap[c]? := fun c hc => he.mon.old c hc
    exact ⟨g, v, rfl, hs.ext io sz old, ⟨Mon.ext hs io sz old, rfl, fun _ _ _ h h' => ⟨h', h⟩⟩, hvr.free hr⟩
end
end Den
