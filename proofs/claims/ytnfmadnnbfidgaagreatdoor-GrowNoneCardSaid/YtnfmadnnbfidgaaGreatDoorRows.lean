/-
  NARROWER THAN 'FOR EVERY INPUT', by the rows' own cells (each row's printed sentence says how): CoupleNone: laid · GrowNone: laid.
  DERIVED. THE GIVEN ROWS OF THIS SEAT. 2 by the template 'for every input the law returns true; each argument reads behind the call as it read before'; 0 by the template 'total and deterministic' (their statements: YtnfmadnnbfidgaaGreatDoorTotals.lean).
  GIVEN WITH THE SEED: the statements are not yours to turn. If you find one false, say at which input.
  Laid BY PROGRAM, IN A SANDBOX (cutbox-rows.mjs): the forced cells as the released guide's own fill.sh prints them over the translation 84f8b294c47b5448… (all of the seat's roots in one cut). By AI agents, Wed Nov 11 2026. No macro, syntax, notation, axiom, sorry.
-/
import Derived.Test.YtnfmadnnbfidgaaGreatDoorChecked
import GoSem.Claim
import GoSem.ClaimJoined
import GoSem.ClaimMapViews
import Derived.JoinedTies
import Derived.KernelRfl
namespace Go.Proofs.YtnfmadnnbfidgaaGreatDoor
/- THE CELL 'sum', in the pinned program and in every row, IS THE sha256 OF THE DUMP (.gsa) THAT YtnfmadnnbfidgaaGreatDoorProg.lean LOADS. Nothing in Lean hashes anything: it is a label: what it is worth is what the hold of that sum in a sandbox is worth. -/
noncomputable def Tryz.pinned : Pinned := { name := "ytnfmadnnbfidgaagreatdoor", sum := "84f8b294c47b5448bfe400e7f2a979437909c3d55a221f5437d7b9c89d8c01fe", checked := Tryz.checked }
namespace Rows
def none {H : Type} : Left H := { results := [], args := [] }

/- WHAT THE LISTED PACKAGE-LEVEL VARIABLES READ AS WHEN THE CALL BEGINS. Each datum BY PROGRAM (the guide's laid-datum.mjs) off the statement by which the dump's own 'gosem.cut.vars' lays the variable. In a bare row this is a premise. The card (YtnfmadnnbfidgaaGreatDoorCards.lean) ties it to the program's text. -/
def laid_ticketline_modes_fits {H : Type} : DataW H := .agg [.agg [.lit (.bool false), .lit (.bool false), .lit (.bool false), .lit (.bool false)], .agg [.lit (.bool false), .lit (.bool true), .lit (.bool true), .lit (.bool false)], .agg [.lit (.bool false), .lit (.bool true), .lit (.bool false), .lit (.bool false)], .agg [.lit (.bool false), .lit (.bool false), .lit (.bool false), .lit (.bool false)]]

/-- 'ticketlinelaw28.CoupleNone': WHATEVER THE INPUT: true; the input reads as it did. -/
def coupleNoneSpec : ChangeSpec := { name := "coupleNone", fn := fun _ => fun
  | [] => { results := [.lit (.bool true)], args := [] }
  | _ => none }
def coupleNoneRow : OpenClaim := { program := "ytnfmadnnbfidgaagreatdoor", sum := "84f8b294c47b5448bfe400e7f2a979437909c3d55a221f5437d7b9c89d8c01fe", func := "ticketline/ticketlinelaw28.CoupleNone", spec := "coupleNone", inPlace := ["internal/bytealg.abigen_runtime_cmpstring"], unfollowed := true, recurses := true, named := ["ticketline/modes.fits"], apart := false, laid := [("ticketline/modes.fits", laid_ticketline_modes_fits)] }
def CoupleNoneSaid : Prop := coupleNoneRow.holds Tryz.pinned (OpenSpec.ofChange coupleNoneSpec)

/-- ITS FALSE NEIGHBOUR: 'it returns false'. Refute it at one input. -/
def coupleNoneWrong : ChangeSpec := { name := "coupleNone", fn := fun _ => fun
  | [] => { results := [.lit (.bool false)], args := [] }
  | _ => none }
def CoupleNoneWrongFalsely : Prop := coupleNoneRow.holds Tryz.pinned (OpenSpec.ofChange coupleNoneWrong)

/-- 'ticketlinelaw29.GrowNone': WHATEVER THE INPUT: true; the input reads as it did. -/
def growNoneSpec : ChangeSpec := { name := "growNone", fn := fun _ => fun
  | [] => { results := [.lit (.bool true)], args := [] }
  | _ => none }
def growNoneRow : OpenClaim := { program := "ytnfmadnnbfidgaagreatdoor", sum := "84f8b294c47b5448bfe400e7f2a979437909c3d55a221f5437d7b9c89d8c01fe", func := "ticketline/ticketlinelaw29.GrowNone", spec := "growNone", inPlace := ["internal/bytealg.abigen_runtime_cmpstring"], unfollowed := true, recurses := true, named := ["ticketline/modes.fits"], apart := false, laid := [("ticketline/modes.fits", laid_ticketline_modes_fits)] }
def GrowNoneSaid : Prop := growNoneRow.holds Tryz.pinned (OpenSpec.ofChange growNoneSpec)

/-- ITS FALSE NEIGHBOUR: 'it returns false'. Refute it at one input. -/
def growNoneWrong : ChangeSpec := { name := "growNone", fn := fun _ => fun
  | [] => { results := [.lit (.bool false)], args := [] }
  | _ => none }
def GrowNoneWrongFalsely : Prop := growNoneRow.holds Tryz.pinned (OpenSpec.ofChange growNoneWrong)

/- THE SECOND FORM. 'bulk': how many values and letters a reading holds, each counted each time it is reached (what is shared counts as often as it is met; a slice's spare places count too). A statement '..UptoSaid' is the law's where the arguments, and the package variables that the reading takes, are together of bulk at most 1048576: NARROWER than '..Said'. Prove '..Said' where nothing that the law and all that it calls make is longer than what came in: it says more and counts as full. Else prove '..UptoSaid'. A law counts once. -/
mutual
def uptoBulk {H : Type} : DataW H → Nat
  | .lit (.string bytes) => bytes.length + 1
  | .lit _ => 1
  | .nil => 1
  | .ptr d => uptoBulk d + 1
  | .slice elems spare => uptoBulkAll elems + uptoBulkAll spare + 1
  | .agg parts => uptoBulkAll parts + 1
  | .iface _ d => uptoBulk d + 1
  | .map entries => uptoBulkEntries entries + 1
  | .held _ => 1
def uptoBulkAll {H : Type} : List (DataW H) → Nat
  | [] => 0
  | d :: r => uptoBulk d + uptoBulkAll r
def uptoBulkEntries {H : Type} : List (Lit × DataW H) → Nat
  | [] => 0
  | x :: r => uptoBulkEntry x + uptoBulkEntries r
def uptoBulkEntry {H : Type} : Lit × DataW H → Nat
  | (.string bytes, d) => bytes.length + uptoBulk d + 1
  | (_, d) => uptoBulk d + 1
 end
def uptoSmall : (H : Type) → List (DataW H) → Bool := fun _ ds => decide (uptoBulkAll ds ≤ 1048576)
def OpenSpec.upto (s : _root_.Go.ChangeSpec) : _root_.Go.OpenSpec := { _root_.Go.OpenSpec.ofChange s with cond := some uptoSmall }

/-- 'ticketlinelaw28.CoupleNone', WHERE WHAT IT READS IS OF BULK AT MOST 1048576: true; the input reads as it did. -/
def coupleNoneUptoRow : OpenClaim := { program := "ytnfmadnnbfidgaagreatdoor", sum := "84f8b294c47b5448bfe400e7f2a979437909c3d55a221f5437d7b9c89d8c01fe", func := "ticketline/ticketlinelaw28.CoupleNone", spec := "coupleNone", inPlace := ["internal/bytealg.abigen_runtime_cmpstring"], unfollowed := true, recurses := true, named := ["ticketline/modes.fits"], apart := false, laid := [("ticketline/modes.fits", laid_ticketline_modes_fits)], narrowed := true }
def CoupleNoneUptoSaid : Prop := coupleNoneUptoRow.holds Tryz.pinned (OpenSpec.upto coupleNoneSpec)

/-- 'ticketlinelaw29.GrowNone', WHERE WHAT IT READS IS OF BULK AT MOST 1048576: true; the input reads as it did. -/
def growNoneUptoRow : OpenClaim := { program := "ytnfmadnnbfidgaagreatdoor", sum := "84f8b294c47b5448bfe400e7f2a979437909c3d55a221f5437d7b9c89d8c01fe", func := "ticketline/ticketlinelaw29.GrowNone", spec := "growNone", inPlace := ["internal/bytealg.abigen_runtime_cmpstring"], unfollowed := true, recurses := true, named := ["ticketline/modes.fits"], apart := false, laid := [("ticketline/modes.fits", laid_ticketline_modes_fits)], narrowed := true }
def GrowNoneUptoSaid : Prop := growNoneUptoRow.holds Tryz.pinned (OpenSpec.upto growNoneSpec)

end Rows
end Go.Proofs.YtnfmadnnbfidgaaGreatDoor
