/-
  No cell of these rows narrows 'for every input' (looked for: loops, veiled, ifaces, maps, wideKeys, modest, calm, conditions, laid).
  DERIVED. THE GIVEN ROWS OF THIS SEAT. 10 by the template 'for every input the law returns true; each argument reads behind the call as it read before'; 0 by the template 'total and deterministic' (their statements: YtiecdchfnenldaaGreatTotals.lean).
  GIVEN WITH THE SEED: the statements are not yours to turn. If you find one false, say at which input.
  Laid BY PROGRAM, IN A SANDBOX (cutbox-rows.mjs): the forced cells as the released guide's own fill.sh prints them over the translation 1b3c09e3e575973a… (all of the seat's roots in one cut). By AI agents, Wed Nov 11 2026. No macro, syntax, notation, axiom, sorry.
-/
import Derived.Test.YtiecdchfnenldaaGreatChecked
import GoSem.Claim
import GoSem.ClaimJoined
import GoSem.ClaimMapViews
import Derived.JoinedTies
import Derived.KernelRfl
namespace Go.Proofs.YtiecdchfnenldaaGreat
/- THE CELL 'sum', in the pinned program and in every row, IS THE sha256 OF THE DUMP (.gsa) THAT YtiecdchfnenldaaGreatProg.lean LOADS. Nothing in Lean hashes anything: it is a label: what it is worth is what the hold of that sum in a sandbox is worth. -/
noncomputable def Tryz.pinned : Pinned := { name := "ytiecdchfnenldaagreat", sum := "1b3c09e3e575973abbd9ac95ecade7d6069bb6d8bd369730aa0c38eccbe8fa65", checked := Tryz.checked }
namespace Rows
def none {H : Type} : Left H := { results := [], args := [] }

/-- 'ticketlinelaw31.GateCalls': WHATEVER THE INPUT: true; the input reads as it did. -/
def gateCallsSpec : ChangeSpec := { name := "gateCalls", fn := fun _ => fun
  | [d1, d2, d3] => { results := [.lit (.bool true)], args := [d1, d2, d3] }
  | _ => none }
def gateCallsRow : OpenClaim := { program := "ytiecdchfnenldaagreat", sum := "1b3c09e3e575973abbd9ac95ecade7d6069bb6d8bd369730aa0c38eccbe8fa65", func := "ticketline/ticketlinelaw31.GateCalls", spec := "gateCalls", inPlace := ["internal/bytealg.abigen_runtime_cmpstring"], unfollowed := true, recurses := true, apart := false }
def GateCallsSaid : Prop := gateCallsRow.holds Tryz.pinned (OpenSpec.ofChange gateCallsSpec)

/-- ITS FALSE NEIGHBOUR: 'it returns false'. Refute it at one input. -/
def gateCallsWrong : ChangeSpec := { name := "gateCalls", fn := fun _ => fun
  | [d1, d2, d3] => { results := [.lit (.bool false)], args := [d1, d2, d3] }
  | _ => none }
def GateCallsWrongFalsely : Prop := gateCallsRow.holds Tryz.pinned (OpenSpec.ofChange gateCallsWrong)

/-- 'ticketlinelaw31.GateRaces': WHATEVER THE INPUT: true; the input reads as it did. -/
def gateRacesSpec : ChangeSpec := { name := "gateRaces", fn := fun _ => fun
  | [d1, d2, d3, d4] => { results := [.lit (.bool true)], args := [d1, d2, d3, d4] }
  | _ => none }
def gateRacesRow : OpenClaim := { program := "ytiecdchfnenldaagreat", sum := "1b3c09e3e575973abbd9ac95ecade7d6069bb6d8bd369730aa0c38eccbe8fa65", func := "ticketline/ticketlinelaw31.GateRaces", spec := "gateRaces", inPlace := ["internal/bytealg.abigen_runtime_cmpstring"], unfollowed := true, recurses := true, apart := false }
def GateRacesSaid : Prop := gateRacesRow.holds Tryz.pinned (OpenSpec.ofChange gateRacesSpec)

/-- ITS FALSE NEIGHBOUR: 'it returns false'. Refute it at one input. -/
def gateRacesWrong : ChangeSpec := { name := "gateRaces", fn := fun _ => fun
  | [d1, d2, d3, d4] => { results := [.lit (.bool false)], args := [d1, d2, d3, d4] }
  | _ => none }
def GateRacesWrongFalsely : Prop := gateRacesRow.holds Tryz.pinned (OpenSpec.ofChange gateRacesWrong)

/-- 'ticketlinelaw31.GateNone': WHATEVER THE INPUT: true; the input reads as it did. -/
def gateNoneSpec : ChangeSpec := { name := "gateNone", fn := fun _ => fun
  | [] => { results := [.lit (.bool true)], args := [] }
  | _ => none }
def gateNoneRow : OpenClaim := { program := "ytiecdchfnenldaagreat", sum := "1b3c09e3e575973abbd9ac95ecade7d6069bb6d8bd369730aa0c38eccbe8fa65", func := "ticketline/ticketlinelaw31.GateNone", spec := "gateNone", inPlace := ["internal/bytealg.abigen_runtime_cmpstring"], unfollowed := true, recurses := true, apart := false }
def GateNoneSaid : Prop := gateNoneRow.holds Tryz.pinned (OpenSpec.ofChange gateNoneSpec)

/-- ITS FALSE NEIGHBOUR: 'it returns false'. Refute it at one input. -/
def gateNoneWrong : ChangeSpec := { name := "gateNone", fn := fun _ => fun
  | [] => { results := [.lit (.bool false)], args := [] }
  | _ => none }
def GateNoneWrongFalsely : Prop := gateNoneRow.holds Tryz.pinned (OpenSpec.ofChange gateNoneWrong)

/-- 'ticketlinelaw31.GateHolds': WHATEVER THE INPUT: true; the input reads as it did. -/
def gateHoldsSpec : ChangeSpec := { name := "gateHolds", fn := fun _ => fun
  | [d1, d2] => { results := [.lit (.bool true)], args := [d1, d2] }
  | _ => none }
def gateHoldsRow : OpenClaim := { program := "ytiecdchfnenldaagreat", sum := "1b3c09e3e575973abbd9ac95ecade7d6069bb6d8bd369730aa0c38eccbe8fa65", func := "ticketline/ticketlinelaw31.GateHolds", spec := "gateHolds", inPlace := ["internal/bytealg.abigen_runtime_cmpstring"], unfollowed := true, recurses := true, apart := false }
def GateHoldsSaid : Prop := gateHoldsRow.holds Tryz.pinned (OpenSpec.ofChange gateHoldsSpec)

/-- ITS FALSE NEIGHBOUR: 'it returns false'. Refute it at one input. -/
def gateHoldsWrong : ChangeSpec := { name := "gateHolds", fn := fun _ => fun
  | [d1, d2] => { results := [.lit (.bool false)], args := [d1, d2] }
  | _ => none }
def GateHoldsWrongFalsely : Prop := gateHoldsRow.holds Tryz.pinned (OpenSpec.ofChange gateHoldsWrong)

/-- 'ticketlinelaw31.GateErrors': WHATEVER THE INPUT: true; the input reads as it did. -/
def gateErrorsSpec : ChangeSpec := { name := "gateErrors", fn := fun _ => fun
  | [d1, d2, d3, d4] => { results := [.lit (.bool true)], args := [d1, d2, d3, d4] }
  | _ => none }
def gateErrorsRow : OpenClaim := { program := "ytiecdchfnenldaagreat", sum := "1b3c09e3e575973abbd9ac95ecade7d6069bb6d8bd369730aa0c38eccbe8fa65", func := "ticketline/ticketlinelaw31.GateErrors", spec := "gateErrors", inPlace := ["internal/bytealg.abigen_runtime_cmpstring"], unfollowed := true, recurses := true, apart := false }
def GateErrorsSaid : Prop := gateErrorsRow.holds Tryz.pinned (OpenSpec.ofChange gateErrorsSpec)

/-- ITS FALSE NEIGHBOUR: 'it returns false'. Refute it at one input. -/
def gateErrorsWrong : ChangeSpec := { name := "gateErrors", fn := fun _ => fun
  | [d1, d2, d3, d4] => { results := [.lit (.bool false)], args := [d1, d2, d3, d4] }
  | _ => none }
def GateErrorsWrongFalsely : Prop := gateErrorsRow.holds Tryz.pinned (OpenSpec.ofChange gateErrorsWrong)

/-- 'ticketlinelaw32.TicketTries': WHATEVER THE INPUT: true; the input reads as it did. -/
def ticketTriesSpec : ChangeSpec := { name := "ticketTries", fn := fun _ => fun
  | [d1, d2, d3] => { results := [.lit (.bool true)], args := [d1, d2, d3] }
  | _ => none }
def ticketTriesRow : OpenClaim := { program := "ytiecdchfnenldaagreat", sum := "1b3c09e3e575973abbd9ac95ecade7d6069bb6d8bd369730aa0c38eccbe8fa65", func := "ticketline/ticketlinelaw32.TicketTries", spec := "ticketTries", inPlace := ["internal/bytealg.abigen_runtime_cmpstring"], unfollowed := true, recurses := true, apart := false }
def TicketTriesSaid : Prop := ticketTriesRow.holds Tryz.pinned (OpenSpec.ofChange ticketTriesSpec)

/-- ITS FALSE NEIGHBOUR: 'it returns false'. Refute it at one input. -/
def ticketTriesWrong : ChangeSpec := { name := "ticketTries", fn := fun _ => fun
  | [d1, d2, d3] => { results := [.lit (.bool false)], args := [d1, d2, d3] }
  | _ => none }
def TicketTriesWrongFalsely : Prop := ticketTriesRow.holds Tryz.pinned (OpenSpec.ofChange ticketTriesWrong)

/-- 'ticketlinelaw32.TicketDraws': WHATEVER THE INPUT: true; the input reads as it did. -/
def ticketDrawsSpec : ChangeSpec := { name := "ticketDraws", fn := fun _ => fun
  | [d1, d2, d3] => { results := [.lit (.bool true)], args := [d1, d2, d3] }
  | _ => none }
def ticketDrawsRow : OpenClaim := { program := "ytiecdchfnenldaagreat", sum := "1b3c09e3e575973abbd9ac95ecade7d6069bb6d8bd369730aa0c38eccbe8fa65", func := "ticketline/ticketlinelaw32.TicketDraws", spec := "ticketDraws", inPlace := ["internal/bytealg.abigen_runtime_cmpstring"], unfollowed := true, recurses := true, apart := false }
def TicketDrawsSaid : Prop := ticketDrawsRow.holds Tryz.pinned (OpenSpec.ofChange ticketDrawsSpec)

/-- ITS FALSE NEIGHBOUR: 'it returns false'. Refute it at one input. -/
def ticketDrawsWrong : ChangeSpec := { name := "ticketDraws", fn := fun _ => fun
  | [d1, d2, d3] => { results := [.lit (.bool false)], args := [d1, d2, d3] }
  | _ => none }
def TicketDrawsWrongFalsely : Prop := ticketDrawsRow.holds Tryz.pinned (OpenSpec.ofChange ticketDrawsWrong)

/-- 'ticketlinelaw32.TicketRaces': WHATEVER THE INPUT: true; the input reads as it did. -/
def ticketRacesSpec : ChangeSpec := { name := "ticketRaces", fn := fun _ => fun
  | [d1, d2, d3] => { results := [.lit (.bool true)], args := [d1, d2, d3] }
  | _ => none }
def ticketRacesRow : OpenClaim := { program := "ytiecdchfnenldaagreat", sum := "1b3c09e3e575973abbd9ac95ecade7d6069bb6d8bd369730aa0c38eccbe8fa65", func := "ticketline/ticketlinelaw32.TicketRaces", spec := "ticketRaces", inPlace := ["internal/bytealg.abigen_runtime_cmpstring"], unfollowed := true, recurses := true, apart := false }
def TicketRacesSaid : Prop := ticketRacesRow.holds Tryz.pinned (OpenSpec.ofChange ticketRacesSpec)

/-- ITS FALSE NEIGHBOUR: 'it returns false'. Refute it at one input. -/
def ticketRacesWrong : ChangeSpec := { name := "ticketRaces", fn := fun _ => fun
  | [d1, d2, d3] => { results := [.lit (.bool false)], args := [d1, d2, d3] }
  | _ => none }
def TicketRacesWrongFalsely : Prop := ticketRacesRow.holds Tryz.pinned (OpenSpec.ofChange ticketRacesWrong)

/-- 'ticketlinelaw32.TicketNone': WHATEVER THE INPUT: true; the input reads as it did. -/
def ticketNoneSpec : ChangeSpec := { name := "ticketNone", fn := fun _ => fun
  | [] => { results := [.lit (.bool true)], args := [] }
  | _ => none }
def ticketNoneRow : OpenClaim := { program := "ytiecdchfnenldaagreat", sum := "1b3c09e3e575973abbd9ac95ecade7d6069bb6d8bd369730aa0c38eccbe8fa65", func := "ticketline/ticketlinelaw32.TicketNone", spec := "ticketNone", inPlace := ["internal/bytealg.abigen_runtime_cmpstring"], unfollowed := true, recurses := true, apart := false }
def TicketNoneSaid : Prop := ticketNoneRow.holds Tryz.pinned (OpenSpec.ofChange ticketNoneSpec)

/-- ITS FALSE NEIGHBOUR: 'it returns false'. Refute it at one input. -/
def ticketNoneWrong : ChangeSpec := { name := "ticketNone", fn := fun _ => fun
  | [] => { results := [.lit (.bool false)], args := [] }
  | _ => none }
def TicketNoneWrongFalsely : Prop := ticketNoneRow.holds Tryz.pinned (OpenSpec.ofChange ticketNoneWrong)

/-- 'ticketlinelaw32.TicketHolds': WHATEVER THE INPUT: true; the input reads as it did. -/
def ticketHoldsSpec : ChangeSpec := { name := "ticketHolds", fn := fun _ => fun
  | [d1, d2, d3, d4] => { results := [.lit (.bool true)], args := [d1, d2, d3, d4] }
  | _ => none }
def ticketHoldsRow : OpenClaim := { program := "ytiecdchfnenldaagreat", sum := "1b3c09e3e575973abbd9ac95ecade7d6069bb6d8bd369730aa0c38eccbe8fa65", func := "ticketline/ticketlinelaw32.TicketHolds", spec := "ticketHolds", inPlace := ["internal/bytealg.abigen_runtime_cmpstring"], unfollowed := true, recurses := true, apart := false }
def TicketHoldsSaid : Prop := ticketHoldsRow.holds Tryz.pinned (OpenSpec.ofChange ticketHoldsSpec)

/-- ITS FALSE NEIGHBOUR: 'it returns false'. Refute it at one input. -/
def ticketHoldsWrong : ChangeSpec := { name := "ticketHolds", fn := fun _ => fun
  | [d1, d2, d3, d4] => { results := [.lit (.bool false)], args := [d1, d2, d3, d4] }
  | _ => none }
def TicketHoldsWrongFalsely : Prop := ticketHoldsRow.holds Tryz.pinned (OpenSpec.ofChange ticketHoldsWrong)

/- THE SECOND FORM. 'bulk': how many values and letters a reading holds, each counted each time it is reached (what is shared counts as often as it is met; a slice's spare places count too). A statement '..UptoSaid' is the law's where the arguments, and the package variables that the reading takes, are together of bulk at most 1048576: NARROWER than '..Said'. Prove '..Said' where nothing that the law and all that it calls make is longer than what came in: it says more and counts as full. Else prove '..UptoSaid'. A law counts once. -/
mutual
def uptoBulk {H : Type} : DataW H → Nat
  | .lit (.string bytes) => bytes.length + 1
  | .lit _ => 1
  | .nil => 1
  | .ptr d => uptoBulk d + 1
  | .slice elems spare => uptoBulkAll elems + uptoBulkAll spare + 1
  | .agg parts => uptoBulkAll parts + 1
  | .iface _ d => uptoBulk d + 1
  | .map entries => uptoBulkEntries entries + 1
  | .held _ => 1
def uptoBulkAll {H : Type} : List (DataW H) → Nat
  | [] => 0
  | d :: r => uptoBulk d + uptoBulkAll r
def uptoBulkEntries {H : Type} : List (Lit × DataW H) → Nat
  | [] => 0
  | x :: r => uptoBulkEntry x + uptoBulkEntries r
def uptoBulkEntry {H : Type} : Lit × DataW H → Nat
  | (.string bytes, d) => bytes.length + uptoBulk d + 1
  | (_, d) => uptoBulk d + 1
 end
def uptoSmall : (H : Type) → List (DataW H) → Bool := fun _ ds => decide (uptoBulkAll ds ≤ 1048576)
def OpenSpec.upto (s : _root_.Go.ChangeSpec) : _root_.Go.OpenSpec := { _root_.Go.OpenSpec.ofChange s with cond := some uptoSmall }

/-- 'ticketlinelaw31.GateCalls', WHERE WHAT IT READS IS OF BULK AT MOST 1048576: true; the input reads as it did. -/
def gateCallsUptoRow : OpenClaim := { program := "ytiecdchfnenldaagreat", sum := "1b3c09e3e575973abbd9ac95ecade7d6069bb6d8bd369730aa0c38eccbe8fa65", func := "ticketline/ticketlinelaw31.GateCalls", spec := "gateCalls", inPlace := ["internal/bytealg.abigen_runtime_cmpstring"], unfollowed := true, recurses := true, apart := false, narrowed := true }
def GateCallsUptoSaid : Prop := gateCallsUptoRow.holds Tryz.pinned (OpenSpec.upto gateCallsSpec)

/-- 'ticketlinelaw31.GateRaces', WHERE WHAT IT READS IS OF BULK AT MOST 1048576: true; the input reads as it did. -/
def gateRacesUptoRow : OpenClaim := { program := "ytiecdchfnenldaagreat", sum := "1b3c09e3e575973abbd9ac95ecade7d6069bb6d8bd369730aa0c38eccbe8fa65", func := "ticketline/ticketlinelaw31.GateRaces", spec := "gateRaces", inPlace := ["internal/bytealg.abigen_runtime_cmpstring"], unfollowed := true, recurses := true, apart := false, narrowed := true }
def GateRacesUptoSaid : Prop := gateRacesUptoRow.holds Tryz.pinned (OpenSpec.upto gateRacesSpec)

/-- 'ticketlinelaw31.GateNone', WHERE WHAT IT READS IS OF BULK AT MOST 1048576: true; the input reads as it did. -/
def gateNoneUptoRow : OpenClaim := { program := "ytiecdchfnenldaagreat", sum := "1b3c09e3e575973abbd9ac95ecade7d6069bb6d8bd369730aa0c38eccbe8fa65", func := "ticketline/ticketlinelaw31.GateNone", spec := "gateNone", inPlace := ["internal/bytealg.abigen_runtime_cmpstring"], unfollowed := true, recurses := true, apart := false, narrowed := true }
def GateNoneUptoSaid : Prop := gateNoneUptoRow.holds Tryz.pinned (OpenSpec.upto gateNoneSpec)

/-- 'ticketlinelaw31.GateHolds', WHERE WHAT IT READS IS OF BULK AT MOST 1048576: true; the input reads as it did. -/
def gateHoldsUptoRow : OpenClaim := { program := "ytiecdchfnenldaagreat", sum := "1b3c09e3e575973abbd9ac95ecade7d6069bb6d8bd369730aa0c38eccbe8fa65", func := "ticketline/ticketlinelaw31.GateHolds", spec := "gateHolds", inPlace := ["internal/bytealg.abigen_runtime_cmpstring"], unfollowed := true, recurses := true, apart := false, narrowed := true }
def GateHoldsUptoSaid : Prop := gateHoldsUptoRow.holds Tryz.pinned (OpenSpec.upto gateHoldsSpec)

/-- 'ticketlinelaw31.GateErrors', WHERE WHAT IT READS IS OF BULK AT MOST 1048576: true; the input reads as it did. -/
def gateErrorsUptoRow : OpenClaim := { program := "ytiecdchfnenldaagreat", sum := "1b3c09e3e575973abbd9ac95ecade7d6069bb6d8bd369730aa0c38eccbe8fa65", func := "ticketline/ticketlinelaw31.GateErrors", spec := "gateErrors", inPlace := ["internal/bytealg.abigen_runtime_cmpstring"], unfollowed := true, recurses := true, apart := false, narrowed := true }
def GateErrorsUptoSaid : Prop := gateErrorsUptoRow.holds Tryz.pinned (OpenSpec.upto gateErrorsSpec)

/-- 'ticketlinelaw32.TicketTries', WHERE WHAT IT READS IS OF BULK AT MOST 1048576: true; the input reads as it did. -/
def ticketTriesUptoRow : OpenClaim := { program := "ytiecdchfnenldaagreat", sum := "1b3c09e3e575973abbd9ac95ecade7d6069bb6d8bd369730aa0c38eccbe8fa65", func := "ticketline/ticketlinelaw32.TicketTries", spec := "ticketTries", inPlace := ["internal/bytealg.abigen_runtime_cmpstring"], unfollowed := true, recurses := true, apart := false, narrowed := true }
def TicketTriesUptoSaid : Prop := ticketTriesUptoRow.holds Tryz.pinned (OpenSpec.upto ticketTriesSpec)

/-- 'ticketlinelaw32.TicketDraws', WHERE WHAT IT READS IS OF BULK AT MOST 1048576: true; the input reads as it did. -/
def ticketDrawsUptoRow : OpenClaim := { program := "ytiecdchfnenldaagreat", sum := "1b3c09e3e575973abbd9ac95ecade7d6069bb6d8bd369730aa0c38eccbe8fa65", func := "ticketline/ticketlinelaw32.TicketDraws", spec := "ticketDraws", inPlace := ["internal/bytealg.abigen_runtime_cmpstring"], unfollowed := true, recurses := true, apart := false, narrowed := true }
def TicketDrawsUptoSaid : Prop := ticketDrawsUptoRow.holds Tryz.pinned (OpenSpec.upto ticketDrawsSpec)

/-- 'ticketlinelaw32.TicketRaces', WHERE WHAT IT READS IS OF BULK AT MOST 1048576: true; the input reads as it did. -/
def ticketRacesUptoRow : OpenClaim := { program := "ytiecdchfnenldaagreat", sum := "1b3c09e3e575973abbd9ac95ecade7d6069bb6d8bd369730aa0c38eccbe8fa65", func := "ticketline/ticketlinelaw32.TicketRaces", spec := "ticketRaces", inPlace := ["internal/bytealg.abigen_runtime_cmpstring"], unfollowed := true, recurses := true, apart := false, narrowed := true }
def TicketRacesUptoSaid : Prop := ticketRacesUptoRow.holds Tryz.pinned (OpenSpec.upto ticketRacesSpec)

/-- 'ticketlinelaw32.TicketNone', WHERE WHAT IT READS IS OF BULK AT MOST 1048576: true; the input reads as it did. -/
def ticketNoneUptoRow : OpenClaim := { program := "ytiecdchfnenldaagreat", sum := "1b3c09e3e575973abbd9ac95ecade7d6069bb6d8bd369730aa0c38eccbe8fa65", func := "ticketline/ticketlinelaw32.TicketNone", spec := "ticketNone", inPlace := ["internal/bytealg.abigen_runtime_cmpstring"], unfollowed := true, recurses := true, apart := false, narrowed := true }
def TicketNoneUptoSaid : Prop := ticketNoneUptoRow.holds Tryz.pinned (OpenSpec.upto ticketNoneSpec)

/-- 'ticketlinelaw32.TicketHolds', WHERE WHAT IT READS IS OF BULK AT MOST 1048576: true; the input reads as it did. -/
def ticketHoldsUptoRow : OpenClaim := { program := "ytiecdchfnenldaagreat", sum := "1b3c09e3e575973abbd9ac95ecade7d6069bb6d8bd369730aa0c38eccbe8fa65", func := "ticketline/ticketlinelaw32.TicketHolds", spec := "ticketHolds", inPlace := ["internal/bytealg.abigen_runtime_cmpstring"], unfollowed := true, recurses := true, apart := false, narrowed := true }
def TicketHoldsUptoSaid : Prop := ticketHoldsUptoRow.holds Tryz.pinned (OpenSpec.upto ticketHoldsSpec)

end Rows
end Go.Proofs.YtiecdchfnenldaaGreat
