/- What the listed variable (the table of modes) holds, cell by cell, where a call begins. -/
import Derived.Test.YtnfmadnnbfidgaaGreatDoorTie
import Derived.ProofKit
import Derived.LaidMore
import Derived.OpenShut
import Derived.Stop.Joined
import Derived.Lay
set_option linter.unusedSimpArgs false
set_option maxRecDepth 100000
namespace Go.Proofs.YtnfmadnnbfidgaaGreatDoor
open Go Go.ChangeShapes Go.WideShapes Go.ChangeAt Go.RowKit

theorem gFits : Tryz.prog.globalNamed "ticketline/modes.fits" = some 1 := by kernel_rfl
theorem tFits : (Tryz.prog.globals[1]?).map (·.type) = some 299 := by kernel_rfl
theorem u299 : Tryz.prog.underlying 299 = some (.array 4 298) := by kernel_rfl
theorem u298 : Tryz.prog.underlying 298 = some (.array 4 4) := by kernel_rfl
theorem u4 : Tryz.prog.underlying 4 = some .bool := by kernel_rfl
theorem c299 : Tryz.prog.cellsOf 299 = 16 := by kernel_rfl
theorem c298 : Tryz.prog.cellsOf 298 = 4 := by kernel_rfl
theorem c4 : Tryz.prog.cellsOf 4 = 1 := by kernel_rfl

section
variable {H : Type} {enc : TypeId × Value → H} {w : World} {base : Nat} {sp : Nat → Bool} {held : Bool} {fuel : Nat}
theorem bools4 {cs : List Value} {x : DataW H × List MemPlace} (h : DataW.trod enc Tryz.prog w base sp held fuel 298 cs = some x) :
    ∃ a b c d, cs = [.bool a, .bool b, .bool c, .bool d] ∧ x.1 = .agg [.lit (.bool a), .lit (.bool b), .lit (.bool c), .lit (.bool d)] := by
  obtain ⟨xs, m, rfl, rfl, hlen, hn, hel⟩ := DataW.trod_array u298 h
  rw [c298] at hlen
  rw [c4] at hel
  obtain ⟨c0, c1, c2, c3, rfl⟩ : ∃ c0 c1 c2 c3, cs = [c0, c1, c2, c3] := by
    match cs, hlen with
    | [a, b, c, d], _ => exact ⟨a, b, c, d, rfl⟩
  obtain ⟨x0, x1, x2, x3, rfl⟩ : ∃ x0 x1 x2 x3, xs = [x0, x1, x2, x3] := by
    match xs, hn with
    | [a, b, c, d], _ => exact ⟨a, b, c, d, rfl⟩
  obtain ⟨b0, e0, rfl⟩ := DataW.trod_bool u4 (show DataW.trod enc Tryz.prog w base sp held m 4 [c0] = some x0 from hel 0 (by decide))
  obtain ⟨b1, e1, rfl⟩ := DataW.trod_bool u4 (show DataW.trod enc Tryz.prog w base sp held m 4 [c1] = some x1 from hel 1 (by decide))
  obtain ⟨b2, e2, rfl⟩ := DataW.trod_bool u4 (show DataW.trod enc Tryz.prog w base sp held m 4 [c2] = some x2 from hel 2 (by decide))
  obtain ⟨b3, e3, rfl⟩ := DataW.trod_bool u4 (show DataW.trod enc Tryz.prog w base sp held m 4 [c3] = some x3 from hel 3 (by decide))
  cases e0; cases e1; cases e2; cases e3
  exact ⟨b0, b1, b2, b3, rfl, rfl⟩

def tab : List Bool := [false, false, false, false, false, true, true, false, false, true, false, false, false, false, false, false]
theorem bools16 {cs : List Value} {x : DataW H × List MemPlace} (h : DataW.trod enc Tryz.prog w base sp held fuel 299 cs = some x) (hx : x.1 = Rows.laid_ticketline_modes_fits) :
    cs = tab.map .bool := by
  obtain ⟨xs, m, rfl, rfl, hlen, hn, hel⟩ := DataW.trod_array u299 h
  rw [c299] at hlen
  rw [c298] at hel
  obtain ⟨x0, x1, x2, x3, rfl⟩ : ∃ x0 x1 x2 x3, xs = [x0, x1, x2, x3] := by
    match xs, hn with
    | [a, b, c, d], _ => exact ⟨a, b, c, d, rfl⟩
  obtain ⟨p0, p1, p2, p3, g0, y0⟩ := bools4 (show DataW.trod enc Tryz.prog w base sp held m 298 ((cs.drop (0 * 4)).take 4) = some x0 from hel 0 (by decide))
  obtain ⟨q0, q1, q2, q3, g1, y1⟩ := bools4 (show DataW.trod enc Tryz.prog w base sp held m 298 ((cs.drop (1 * 4)).take 4) = some x1 from hel 1 (by decide))
  obtain ⟨r0, r1, r2, r3, g2, y2⟩ := bools4 (show DataW.trod enc Tryz.prog w base sp held m 298 ((cs.drop (2 * 4)).take 4) = some x2 from hel 2 (by decide))
  obtain ⟨s0, s1, s2, s3, g3, y3⟩ := bools4 (show DataW.trod enc Tryz.prog w base sp held m 298 ((cs.drop (3 * 4)).take 4) = some x3 from hel 3 (by decide))
  have e : cs = (cs.drop (0 * 4)).take 4 ++ ((cs.drop (1 * 4)).take 4 ++ ((cs.drop (2 * 4)).take 4 ++ (cs.drop (3 * 4)).take 4)) := by
    have h3 : (cs.drop (3 * 4)).take 4 = cs.drop 12 := List.take_of_length_le (by simp [hlen])
    have h2 : (cs.drop (2 * 4)).take 4 ++ cs.drop 12 = cs.drop 8 := by
      have := List.take_append_drop 4 (cs.drop 8)
      rw [List.drop_drop] at this; exact this
    have h1 : (cs.drop (1 * 4)).take 4 ++ cs.drop 8 = cs.drop 4 := by
      have := List.take_append_drop 4 (cs.drop 4)
      rw [List.drop_drop] at this; exact this
    have h0 : (cs.drop (0 * 4)).take 4 ++ cs.drop 4 = cs := by simp
    rw [h3, h2, h1, h0]
  simp only [List.map_cons, List.map_nil, y0, y1, y2, y3, Rows.laid_ticketline_modes_fits, DataW.agg.injEq, List.cons.injEq, DataW.lit.injEq, Lit.bool.injEq, and_true] at hx
  obtain ⟨⟨rfl, rfl, rfl, rfl⟩, ⟨rfl, rfl, rfl, rfl⟩, ⟨rfl, rfl, rfl, rfl⟩, ⟨rfl, rfl, rfl, rfl⟩⟩ := hx
  rw [e, g0, g1, g2, g3]
  rfl
end

/-- What the condition gives. -/
theorem of_laid {W : World} (h : laidMetH Tryz.prog [("ticketline/modes.fits", Rows.laid_ticketline_modes_fits)] W) (i : Nat) (b : Bool) (hi : tab[i]? = some b) : W.cell? ⟨1, i, none⟩ = some (.bool b) := by
  rw [MakeChecks.laidMetH_plain _ _ _ (by kernel_rfl)] at h
  obtain ⟨ps, ⟨g0, t0, cs0, f0, p0, q0, hg0, ht0, hv0, hd0, _, _⟩, _⟩ := h
  obtain rfl := Option.some.inj (gFits.symm.trans hg0)
  obtain rfl := Option.some.inj (tFits.symm.trans ht0)
  have e := bools16 hd0 rfl
  have hc := World.var?_cell hg0 hv0 i
  have : cs0[i]? = some (.bool b) := by
    rw [← Array.getElem?_toList, e, List.getElem?_map, hi]; rfl
  rw [this] at hc
  exact hc

/-- The start that lays the table meets the condition. -/
theorem laid_met (os : Os) (args : Array Value) : laidMetH Tryz.prog [("ticketline/modes.fits", Rows.laid_ticketline_modes_fits)] ((World.laidAll Tryz.prog os [("ticketline/modes.fits", Rows.laid_ticketline_modes_fits)]).forCall (fun _ _ => 0) ⟨#[], args, []⟩).memory := by
  rw [MakeChecks.laidMetH_plain _ _ _ (by kernel_rfl)]
  exact laidMet_laidAll _ (by kernel_rfl) (by kernel_rfl)
theorem laid_below {W : World} (h : laidMetH Tryz.prog [("ticketline/modes.fits", Rows.laid_ticketline_modes_fits)] W) : 1 < W.heap.size := by
  have := of_laid h 0 false rfl
  rcases Nat.lt_or_ge 1 W.heap.size with h' | h'
  · exact h'
  · have e : W.heap[1]? = none := Array.getElem?_eq_none h'
    simp [World.cell?, e] at this
end Go.Proofs.YtnfmadnnbfidgaaGreatDoor
