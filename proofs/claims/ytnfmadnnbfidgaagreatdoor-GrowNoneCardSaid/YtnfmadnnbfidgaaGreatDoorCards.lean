/-
  DERIVED. GIVEN WITH THE SEED: THE CARDS: each row of YtnfmadnnbfidgaaGreatDoorRows.lean that lists a variable, with what it lists TIED to the program's text (the seventh form; the later family's looks); each row that meets fmt, with fmt's text TOLD by the authors' own Lean function (tested against real Go, not proved from fmt's source: count such statements apart). THE CARD IS WHAT COUNTS. Prove the row's statement (the work); the ties are given (YtnfmadnnbfidgaaGreatDoorTie.lean); close each card by the builder's one call (the guide's Derived/Test/ToyasCard.lean, 'card_holds'). Laid BY PROGRAM, IN A SANDBOX (cutbox-door.mjs). By AI agents, Wed Nov 11 2026. No macro, syntax, notation, axiom, sorry.
-/
import Derived.Test.YtnfmadnnbfidgaaGreatDoorRows
import GoSem.ClaimSeven
namespace Go.Proofs.YtnfmadnnbfidgaaGreatDoor
namespace Rows

/-- THE TIED CARD OF 'ticketlinelaw28.CoupleNone'. -/
def coupleNoneCard : Claim7 := { stood := { row := coupleNoneRow, standIns := [], harness := (true, "bc65c8efaac31d618c24cc98c2c8a19f54146abdde5359e12fcf6946947ad28a"), looks := true }, kinds := [], alts := [], laidByText := true, laidKinds := [.data], laidTests := true, laidLooks := .later }
def CoupleNoneCardSaid : Prop := Claim7.holds Tryz.pinned (.plain (OpenSpec.ofChange coupleNoneSpec)) coupleNoneCard

/-- THE TIED CARD OF 'ticketlinelaw29.GrowNone'. -/
def growNoneCard : Claim7 := { stood := { row := growNoneRow, standIns := [], harness := (true, "bc65c8efaac31d618c24cc98c2c8a19f54146abdde5359e12fcf6946947ad28a"), looks := true }, kinds := [], alts := [], laidByText := true, laidKinds := [.data], laidTests := true, laidLooks := .later }
def GrowNoneCardSaid : Prop := Claim7.holds Tryz.pinned (.plain (OpenSpec.ofChange growNoneSpec)) growNoneCard

/-- THE SECOND FORM's CARD OF 'ticketlinelaw28.CoupleNone'. -/
def coupleNoneUptoCard : Claim7 := { stood := { row := coupleNoneUptoRow, standIns := [], harness := (true, "bc65c8efaac31d618c24cc98c2c8a19f54146abdde5359e12fcf6946947ad28a"), looks := true }, kinds := [], alts := [], laidByText := true, laidKinds := [.data], laidTests := true, laidLooks := .later }
def CoupleNoneUptoCardSaid : Prop := Claim7.holds Tryz.pinned (.plain (OpenSpec.upto coupleNoneSpec)) coupleNoneUptoCard

/-- THE SECOND FORM's CARD OF 'ticketlinelaw29.GrowNone'. -/
def growNoneUptoCard : Claim7 := { stood := { row := growNoneUptoRow, standIns := [], harness := (true, "bc65c8efaac31d618c24cc98c2c8a19f54146abdde5359e12fcf6946947ad28a"), looks := true }, kinds := [], alts := [], laidByText := true, laidKinds := [.data], laidTests := true, laidLooks := .later }
def GrowNoneUptoCardSaid : Prop := Claim7.holds Tryz.pinned (.plain (OpenSpec.upto growNoneSpec)) growNoneUptoCard
end Rows
end Go.Proofs.YtnfmadnnbfidgaaGreatDoor
